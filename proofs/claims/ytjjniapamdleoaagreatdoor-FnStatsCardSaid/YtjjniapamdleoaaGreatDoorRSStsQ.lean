/- What the law FnStats asks: plain. -/
import Derived.Test.YtjjniapamdleoaaGreatDoorRSDuP
import Derived.Test.YtjjniapamdleoaaGreatDoorRSLook2
import Derived.Test.YtjjniapamdleoaaGreatDoorRSWkI
namespace Go.Proofs.YtjjniapamdleoaaGreatDoor
open Go Go.RowKit
set_option maxHeartbeats 8000000
set_option maxRecDepth 100000

theorem du_zero {V : VolD} {s : ByteArray} (h : (walkP V (spB s)).2 = 0) : VolP V.nx V.xs /\ 0 <= plc V.xs (walkP V (spB s)).1 := by
 rcases hb : (spB s).2 with _ | _
 ·rw [walk_bad (.inl hb)] at h; cases h
 ·rcases hv : volOkB V.nx V.xs with _ | _
  ·rw [walk_bad (.inr hv)] at h; cases h
  ·have hp := volOkB_iff.1 hv
   rw [walk_ok hb hv] at h ⊢
   exact ⟨hp, wk_id hp _ _ (by rw [hp.one]; omega) h⟩
theorem duS_le (xs : List InoD) (bs : List Bool) : ∀ k, duS xs bs k <= ((xs.take k).map szI).sum
 | 0 => by simp [duS]
 | k + 1 => by
  have h := duS_le xs bs k
  rw [duS]
  by_cases hk : k < xs.length
  ·rw [List.take_succ_eq_append_getElem hk, List.map_append, List.sum_append, List.getElem?_eq_getElem hk]
   have h2 : xs[k].s.size <= szI xs[k] := by unfold szI; omega
   simp only [List.map_cons, List.map_nil, List.sum_cons, List.sum_nil]
   split
   ·rename_i x _ he _; injection he with he; rw [<- he]; omega
   ·omega
  ·rw [List.getElem?_eq_none (by omega), List.take_of_length_le (by omega)]
   rw [List.take_of_length_le (by omega)] at h
   simp only; omega
theorem duS_sm {V : VolD} (sm : szV V <= 1048576) (bs : List Bool) (k : Nat) : duS V.xs bs k <= 1048576 := by
 have h1 := duS_le V.xs bs k
 have h2 : ((V.xs.take k).map szI).sum <= (V.xs.map szI).sum := by
  have : ∀ (l : List InoD) (k : Nat), ((l.take k).map szI).sum <= (l.map szI).sum := by
   intro l
   induction l with
   | nil => intro k; simp
   | cons a l ih =>
    intro k
    cases k with
    | zero => simp
    | succ k => have := ih k; simp only [List.take_succ_cons, List.map_cons, List.sum_cons]; omega
  exact this _ _
 unfold szV szIs at sm
 omega
theorem du_bad {V : VolD} {s : ByteArray} (h : (walkP V (spB s)).2 ≠ 0) : duP V (spB s) = (0, (walkP V (spB s)).2) := by unfold duP; rw [if_pos h]
/-- Where the path leads to an inode: the sum over the ids without their doubles. -/
theorem du_good {V : VolD} {s : ByteArray} (sm : szV V <= 1048576) (h : (walkP V (spB s)).2 = 0) : ∃ n : Nat, duP V (spB s) = ((n : Int), 0) /\ n <= 1048576 /\
  (∀ out, (∀ y, y ∈ out ↔ Rch V.xs (walkP V (spB s)).1 y) -> duL V.xs (setL (out ++ [(walkP V (spB s)).1])) = n /\ ∀ y ∈ setL (out ++ [(walkP V (spB s)).1]), 0 <= plc V.xs y) := by
 obtain ⟨hv, hp⟩ := du_zero h
 obtain ⟨k, hk, hpk, hid⟩ := plc_lt hp
 have hx := List.getElem_mem hk
 have hm : ∀ out, (∀ y, y ∈ out ↔ Rch V.xs (walkP V (spB s)).1 y) -> ∀ y, y ∈ setL (out ++ [(walkP V (spB s)).1]) ↔ Rch V.xs V.xs[k].id y ∨ y = V.xs[k].id := by
  intro out ho y
  rw [(setL_up _).2, List.mem_append, List.mem_singleton, ho, hid]
 have hpl : ∀ out, (∀ y, y ∈ out ↔ Rch V.xs (walkP V (spB s)).1 y) -> ∀ y ∈ setL (out ++ [(walkP V (spB s)).1]), 0 <= plc V.xs y := by
  intro out ho y hy
  rcases (hm out ho y).1 hy with h1 | h1
  ·exact (rch_mem hv h1).1
  ·rw [h1, hid]; exact hp
 have hD : duP V (spB s) = if V.xs[k].kd = 2 then ((duS V.xs (belowB V.xs (walkP V (spB s)).1) V.xs.length : Int), 0) else ((V.xs[k].s.size : Int), 0) := by
  unfold duP
  rw [if_neg (by rw [h]; simp), hpk, Int.toNat_natCast, List.getElem?_eq_getElem hk]
 by_cases hd : V.xs[k].kd = 2
 ·refine ⟨duS V.xs (belowB V.xs (walkP V (spB s)).1) V.xs.length, by rw [hD, if_pos hd], duS_sm sm _ _, fun out ho => ⟨?_, hpl out ho⟩⟩
  rw [du_dir hv hx hd (setL_up _).1 (hm out ho), hid]
 ·refine ⟨V.xs[k].s.size, by rw [hD, if_neg hd], ?_, fun out ho => ⟨du_file hv hx hd (setL_up _).1 (hm out ho), hpl out ho⟩⟩
  have := (ino_data hv hx).1
  omega

theorem du_impl (v : Value) (V : VolD) (sm : szV V <= 1048576) (s : ByteArray) (hs : s.size <= 2000000) (w : World) (hT : Tab w) (hC : IsVolC w v V) :
  Calls Tryz.prog 14 #[v, .string s] w fun e w' => e = .returned (.tuple #[.int .i64 (duP V (spB s)).1, .int .i64 (duP V (spB s)).2]) /\ Below w.heap.size w w' := by
 have Hwk := Lib.hid (fun W hT hW => walkV_impl v V sm s hs W hT hW)
 have hn := v_len sm
 have ha := v_all sm
 have Hat := Lib.hid (fun a W hW => at_impl v V hn a W hW)
 have Hbl := Lib.hid (fun a W hW => below_impl v V hn ha a W hW)
 have Hbad := Lib.hid (du_bad (V := V) (s := s))
 have Hgood := Lib.hid (fun h => du_good (V := V) (s := s) sm h)
 have Hdat := Lib.hid (fun hv x hx => (ino_data (nx := V.nx) (xs := V.xs) hv (x := x) hx).1)
 have Hz := Lib.hid (fun h => (du_zero (V := V) (s := s) h).1)
 have hvv := Lib.hid hC
 have HT := Lib.hid hT
 have h := hC.is
 obtain ⟨A, c, rfl, h⟩ := h
 obtain ⟨nx, xs⟩ := V
 simp only at Hwk Hat Hbl Hbad Hgood Hdat Hz hn h ⊢
 have H := Lib.hid h
 clear h hC hT sm ha
 obtain ⟨n, hn'⟩ : ∃ n, xs.length = n := ⟨_, rfl⟩
 have HL := Lib.hid hn'
 simp only [hn'] at Hwk Hat Hbl hvv H hn ⊢
 clear hn'
 obtain ⟨Q, hQ⟩ : ∃ Q, walkP ⟨nx, xs⟩ (spB s) = Q := ⟨_, rfl⟩
 obtain ⟨D, hD⟩ : ∃ D, duP ⟨nx, xs⟩ (spB s) = D := ⟨_, rfl⟩
 simp only [hQ] at Hwk Hbad Hgood Hz
 simp only [hD] at Hbad Hgood
 rw [hD]
 clear hQ hD
 obtain ⟨id, code⟩ := Q
 simp only at Hwk Hbad Hgood Hz
 obtain ⟨W1, hW1⟩ : ∃ W1, w.alloc (.cells #[.int .i64 nx, .slice A n c] 26) = W1 := ⟨_, rfl⟩
 have B1 : Below w.heap.size w W1 := by rw [<- hW1]; exact belA (bel0 w) _
 have hV : Blk W1 w.heap.size 26 #[.int .i64 nx, .slice A n c] := by rw [<- hW1]; exact Blk.new' _ _ _ _ rfl
 have HW1 := Lib.hid hW1
 have V0 := Lib.hid (hV.get (x := .int .i64 nx) 0 rfl)
 have V1 := Lib.hid (hV.get (x := .slice A n c) 1 rfl)
 clear hW1 hV
 go_enter Tryz.func14, Tryz.ntmps14
 go_wp2_with fail
 rw [HW1.out]
 refine (Hwk.out W1 (HT.out.bl B1) (hvv.out.next B1)).mono ?_
 rintro e w2 ⟨rfl, hb2⟩
 have B2 := belN B1 hb2
 have v0 := kp_ hb2 V0.out
 have v1 := kp_ hb2 V1.out
 by_cases hc : code = 0
 ·subst hc
  obtain ⟨N, hDN, hN, hset⟩ := Hgood.out rfl
  subst hDN
  have Hset := Lib.hid hset
  have Hx20 := Lib.hid (Hdat.out (Hz.out rfl))
  clear hset Hbad Hgood Hz Hdat Hwk
  go_wp2_with fail
  refine (Hbl.out id w2 (hvv.out.next B2).is).mono ?_
  rintro e w3 ⟨vo, out, rfl, hown, hout, hlen, hb3⟩
  have B3 := belN B2 hb3
  obtain ⟨hsum, hpl⟩ := Hset.out out hout
  have v0' := kp_ hb3 v0
  have v1' := kp_ hb3 v1
  have S3 := hb3.size
  have z := B3.size
  have Hsum := Lib.hid hsum
  have Hpl := Lib.hid hpl
  have U0 := Lib.hid v0
  have U1 := Lib.hid v1
  clear v0 v1 hsum hpl hout Hset
  go_wp2_with (at_builtin; go_must (refine wpList_app _ rfl _ _ _ rfl Tryz.el_int (hown.alloc _) rfl (reads_new _ _ _ _ 1 (by rfl)) rfl (by simp [Value.oneCell']) (max_small (by omega)) (by omega) (by simp; omega) ?_); intro v4 w4 own4 hg4 _ hb4)
  have b24 : Below w2.heap.size w2 w4 := (hb3.alloc hb3.size _).trans hb4
  obtain ⟨g, cap, rfl⟩ := own_form1 own4 (by omega)
  have own4' : w4.ownsRow w2.heap.size 3 1 (.slice (some ⟨g, 0, none⟩) (out.length + 1) cap) (out.length + 1) (II (out ++ [id])) := by rw [II_append]; exact own4
  refine (sortI_any (out ++ [id]) own4' (by omega) (by omega)).mono ?_
  rintro e w5 ⟨rfl, own5, hg5⟩
  have b25 := b24.trans (below_grownBy own4 hg5 b24.size)
  clear own4 own4' hg4 hg5
  go_wp2_with fail
  refine (compactI_any (sortL (out ++ [id])) own5 (by omega)).mono ?_
  rintro e w6 ⟨rfl, own6, hg6⟩
  have b26 := b25.trans (below_grownBy own5 hg6 b25.size)
  have B6 := belN B2 b26
  have hS : Lib.compact (sortL (out ++ [id])) = setL (out ++ [id]) := rfl
  rw [hS] at own6 ⊢
  have hSl : (setL (out ++ [id])).length <= 10000001 := by
   have h1 := compact_len (sortL (out ++ [id]))
   rw [sortL_len, List.length_append, hS] at h1
   simp only [List.length_cons, List.length_nil] at h1
   omega
  clear hS own5 hg6
  obtain ⟨S, hS⟩ : ∃ S, setL (out ++ [id]) = S := ⟨_, rfl⟩
  simp only [hS] at own6 Hsum Hpl hSl ⊢
  clear hS
  obtain ⟨m, hm⟩ : ∃ m, S.length = m := ⟨_, rfl⟩
  have HM := Lib.hid hm
  rw [hm] at own6 hSl ⊢
  clear hm
  have Own6 := Lib.hid own6
  have V0 := Lib.hid (kp_ b26 U0.out)
  have V1 := Lib.hid (kp_ b26 U1.out)
  have Hle := Lib.hid (fun k => duL_le xs S k)
  clear own6 v0' v1' U0 U1
  go_wp2
  go_loopw [9, 32] (fun x i wr => ∃ (p : Nat), p <= m /\ i = .int .i64 p /\ x = .int .i64 (duL xs (S.take p) : Nat) /\ Below w6.heap.size w6 wr)
   (fun _ i _ => m - (intOf i).toNat)
  case atStart => exact ⟨0, by omega, rfl, rfl, bel0 w6⟩
  case round =>
   obtain ⟨p, hp, rfl, rfl, hbel⟩ := hrel
   have v0 := kp_ hbel V0.out
   have v1 := kp_ hbel V1.out
   have BB := belN B6 hbel
   have hd1 := Hle.out p
   rw [Hsum.out] at hd1
   by_cases hlt : p < m
   ·have hpx : p < S.length := by have := HM.out; omega
    have own7 := own_below Own6.out hbel (Nat.le_refl _)
    have e1 : wr.cell? ⟨g, p, none⟩ = some (.int .i64 S[p]) := by rw [own7.cellAt p (by omega)]; simp [II, hpx]
    have q0 : (0 : Int) <= ↑p := by omega
    have q1 : (↑p : Int) < ↑m := by omega
    obtain ⟨j, hj, hpj, _⟩ := plc_lt (Hpl.out _ (List.getElem_mem hpx))
    have hjn : j < n := by have := HL.out; omega
    have q2 : (0 : Int) <= ↑j := by omega
    have q3 : (↑j : Int) < ↑n := by omega
    have Hst := Lib.hid (show duL xs (S.take (p + 1)) = duL xs (S.take p) + xs[j].s.size by rw [duL_succ hpx]; unfold szAt; rw [hpj, Int.toNat_natCast, List.getElem?_eq_getElem hj])
    have hd2 := Hx20.out _ (List.getElem_mem hj)
    have Hat2 := Lib.hid (fun W hW => Hat.out S[p] W hW)
    simp only [hpj] at Hat2
    obtain ⟨x, hx⟩ : ∃ x, S[p] = x := ⟨_, rfl⟩
    rw [hx] at e1
    simp only [hx] at Hat2
    clear hx hpj own7
    obtain ⟨_, b, o, A3, c3, hA3, _, z0, z1, z2, z3, z4, _⟩ := (H.out.next BB).at_ hjn
    subst hA3
    obtain ⟨t, ht⟩ : ∃ t, xs[j].s = t := ⟨_, rfl⟩
    rw [ht] at z3 hd2 Hst
    clear z0 z1 z2 z4 ht
    obtain ⟨q, hq⟩ : ∃ q, duL xs (S.take p) = q := ⟨_, rfl⟩
    rw [hq] at hd1 Hst ⊢
    clear hq
    go_wp2_with fail
    go_region_held3 (fun w' => w'.cell? ⟨w.heap.size, 0, none⟩ = some (.int .i64 nx) /\ w'.cell? ⟨w.heap.size, 1, none⟩ = some (.slice (some ⟨b, o, none⟩) n c) /\ w'.cell? ⟨b, o + j * 5 + 3, none⟩ = some (.string t))
     (first | go_keep | (refine ⟨keep1 hb8 ?_, keep1 hb8 ?_, keep1 hb8 ?_⟩ <;> go_keep))
     (first | (go_at_call 47; refine (Hat2.out _ (hvv.out.next BB.drew).is).mono ?_; rintro e w8 ⟨rfl, hb8⟩))
    have b8 : Below w6.heap.size w6 w8 := hbel.drew.trans (hb8.mono (Nat.le_trans hbel.size (Nat.le_refl _)))
    clear v0 v1 z3
    go_wp2
    go_roundw
    case rel => exact ⟨p + 1, by omega, by go_num, by rw [Hst.out, IntWalk.i64_in _ (by omega)]; simp, b8⟩
    case measure => simp [intOf]; omega
   ·obtain rfl : p = m := by omega
    have hq : duL xs (S.take p) = N := by rw [duL_all (by have := HM.out; omega)]; exact Hsum.out
    rw [hq]
    clear hq v0 v1
    go_wp2
    refine bodyPost_ret (v := .tuple #[.int .i64 N, .int .i64 0]) (by simp [results, Tryz.results14, go_sem]) rfl ⟨rfl, BB⟩
 ·have Hg := Lib.hid (Hbad.out hc)
  have hc1 : (code != 0) = true := by simpa using hc
  clear hc Hgood Hbad Hz
  go_wp2
  refine bodyPost_ret (v := .tuple #[.int .i64 0, .int .i64 code]) (by simp [results, Tryz.results14, go_sem]) rfl ⟨by rw [Hg.out], ?_⟩
  repeat (first | refine belA ?_ _ | exact B2 | apply Below.drew)

theorem sts_no {nx : Int} {xs : List InoD} (h : volOkB nx xs = false) : kindP ⟨nx, xs⟩ 1 = 0 /\ fullP ⟨nx, xs⟩ = 0 /\ deepP ⟨nx, xs⟩ 1 = -1 := by
 refine ⟨?_, ?_, ?_⟩
 ·simp [kindP, h]
 ·simp [fullP, h]
 ·simp [deepP, h]
theorem deepP_bd {V : VolD} {a : Int} : -1 <= deepP V a /\ deepP V a <= 16 := by
 unfold deepP
 split
 ·split
  ·omega
  ·have := deepI_bd (xs := V.xs) (T := fun i => (min (dpt V.xs i) 15 : Nat)) (a := a) (dpt_bd V.xs) V.xs.length
   omega
 ·omega
theorem sp_root : spB ⟨#[47]⟩ = ([], true) := by
 have h1 : inI (⟨#[47]⟩ : ByteArray).size 1 200 = true := by rw [inI_true]; constructor <;> decide
 unfold spB
 rw [if_pos ⟨h1, rfl⟩]
 rfl
theorem du_root {nx : Int} {xs : List InoD} (hv : VolP nx xs) : duP ⟨nx, xs⟩ (spB ⟨#[47]⟩) = ((sumS xs xs.length : Int), 0) := by
 have hw : walkP ⟨nx, xs⟩ (spB ⟨#[47]⟩) = (1, 0) := by
  rw [sp_root, walk_ok rfl (volOkB_iff.2 hv)]
  rfl
 obtain ⟨x, h1, h2, h3⟩ := hv.head
 have h0 : 0 < xs.length := by
  rcases Nat.eq_zero_or_pos xs.length with h | h
  ·rw [List.eq_nil_of_length_eq_zero h] at h1; cases h1
  ·exact h
 rw [List.getElem?_eq_getElem h0] at h1
 have h4 := Option.some.inj h1
 have hp : plc xs 1 = ((0 : Nat) : Int) := by rw [<- h2, <- h4]; exact plc_own hv.grow h0
 unfold duP
 rw [hw, if_neg (by simp)]
 show (match xs[(plc xs 1).toNat]? with | none => ((0 : Int), (0 : Int)) | some x => if x.kd = 2 then ((duS xs (belowB xs 1) xs.length : Int), 0) else ((x.s.size : Int), 0)) = _
 rw [hp, Int.toNat_natCast, List.getElem?_eq_getElem h0, h4]
 show (if x.kd = 2 then ((duS xs (belowB xs 1) xs.length : Int), (0 : Int)) else ((x.s.size : Int), 0)) = _
 rw [if_pos h3, duS_all hv _ (Nat.le_refl _)]
theorem du_le {nx : Int} {xs : List InoD} (s : ByteArray) : (duP ⟨nx, xs⟩ (spB s)).1 <= (sumS xs xs.length : Int) := by
 unfold duP
 split
 ·show (0 : Int) <= _; omega
 ·split
  ·show (0 : Int) <= _; omega
  ·rename_i x hx
   split
   ·have := duS_leS (xs := xs) (belowB xs (walkP ⟨nx, xs⟩ (spB s)).1) xs.length
    show (duS xs (belowB xs (walkP ⟨nx, xs⟩ (spB s)).1) xs.length : Int) <= _
    omega
   ·obtain ⟨hj, he⟩ := List.getElem?_eq_some_iff.1 hx
    have := sumS_mem (xs := xs) hj xs.length hj
    rw [he] at this
    show (x.s.size : Int) <= _
    omega
theorem sts_ok {nx : Int} {xs : List InoD} (h : volOkB nx xs = true) : VolP nx xs /\ fullP ⟨nx, xs⟩ = (fullN xs xs.length : Int) /\ kindP ⟨nx, xs⟩ 1 + kindP ⟨nx, xs⟩ 2 = (xs.length : Int) := by
 have hv := volOkB_iff.1 h
 refine ⟨hv, by simp [fullP, h], ?_⟩
 have := kind_all hv xs.length (Nat.le_refl _)
 simp only [kindP, h, if_true]
 omega
theorem kindP_bd {V : VolD} (hn : V.xs.length <= 17) (q : Int) : 0 <= kindP V q /\ kindP V q <= 17 := by
 unfold kindP
 split
 ·have := kindN_le V.xs q V.xs.length
  omega
 ·omega
theorem sumS_sm {V : VolD} (sm : szV V <= 1048576) : ∀ k, k <= V.xs.length -> sumS V.xs k <= 1048576 := by
 intro k hk
 have h1 : ∀ (l : List InoD) (k : Nat), k <= l.length -> sumS l k <= ((l.take k).map szI).sum := by
  intro l k
  induction k with
  | zero => intro _; exact Nat.zero_le _
  | succ k ih =>
   intro hk
   have h2 := ih (by omega)
   rw [sumS_succ (by omega), List.take_succ_eq_append_getElem (show k < l.length by omega), List.map_append, List.sum_append]
   have h3 : l[k].s.size <= szI l[k] := by unfold szI; omega
   simp only [List.map_cons, List.map_nil, List.sum_cons, List.sum_nil]
   omega
 have h2 := h1 V.xs k hk
 have h3 : ((V.xs.take k).map szI).sum <= (V.xs.map szI).sum := by
  have : ∀ (l : List InoD) (k : Nat), ((l.take k).map szI).sum <= (l.map szI).sum := by
   intro l
   induction l with
   | nil => intro k; simp
   | cons x l ih =>
    intro k
    cases k with
    | zero => simp
    | succ k => have := ih k; simp only [List.take_succ_cons, List.map_cons, List.sum_cons]; omega
  exact this _ _
 unfold szV szIs at sm
 omega

end Go.Proofs.YtjjniapamdleoaaGreatDoor
