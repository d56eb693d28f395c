/- The list of a directory, of both sides. -/
import Derived.Test.YtjjniapamdleoaaGreatDoorRCLook2
import Derived.Test.YtjjniapamdleoaaGreatDoorRCDp
import Derived.Test.YtjjniapamdleoaaGreatDoorRCTarP
import Derived.Test.YtjjniapamdleoaaGreatDoorRCRegH
namespace Go.Proofs.YtjjniapamdleoaaGreatDoor
open Go Go.RowKit
set_option maxHeartbeats 8000000
set_option maxRecDepth 100000

theorem beh_transW {a b c : EntD} (h : behB c b.h b.i = true) (h' : behB b a.h a.i = true) : behB c a.h a.i = true := by
 unfold behB at *
 simp only [Bool.or_eq_true, Bool.and_eq_true, decide_eq_true_eq] at *
 omega
theorem dir_behW {ds : List EntD} (h : dirOkB ds = true) : ∀ (d i : Nat) (hj : i + 1 + d < ds.length), behB ds[i + 1 + d] (ds[i]'(by omega)).h (ds[i]'(by omega)).i = true
 | 0, i, hj => by
  have := ((dirOkB_iff.1 h).2 (i + 1) hj).2.1 (by omega)
  simpa using this
 | d + 1, i, hj => by
  have h1 := ((dirOkB_iff.1 h).2 (i + 1 + (d + 1)) hj).2.1 (by omega)
  have h2 := dir_behW h d i (by omega)
  refine beh_transW (b := ds[i + 1 + d]'(by omega)) ?_ h2
  simpa using h1
theorem dir_lessW {ds : List EntD} (h : dirOkB ds = true) {i j : Nat} (hij : i < j) (hj : j < ds.length) : behB ds[j] (ds[i]'(by omega)).h (ds[i]'(by omega)).i = true := by
 have := dir_behW h (j - i - 1) i (by omega)
 simpa [show i + 1 + (j - i - 1) = j by omega] using this
theorem ent_pos {ds : List EntD} (h : dirOkB ds = true) {e : EntD} (he : e ∈ ds) : 0 <= e.h /\ 0 <= e.i := by
 obtain ⟨i, hi, rfl⟩ := List.getElem_of_mem he
 have h1 := ((dirOkB_iff.1 h).2 i hi).1
 unfold entOkB at h1
 simp only [Bool.and_eq_true, beq_iff_eq] at h1
 obtain ⟨h2, h3, h4, _⟩ := h1
 rw [hashI_ok h2] at h3
 simp [inI] at h4
 omega
theorem find_at {α : Type} {p : α -> Bool} : ∀ (l : List α) (k : Nat), (∀ j (h : j < l.length), j < k -> p l[j] = false) -> (∀ h : k < l.length, p l[k] = true) -> l.find? p = l[k]?
 | [], k, _, _ => by simp
 | x :: l, 0, _, h => by
  have := h (by simp)
  simp at this
  rw [List.find?_cons, this]; simp
 | x :: l, k + 1, h1, h2 => by
  have := h1 0 (by simp) (by omega)
  simp at this
  rw [List.find?_cons, this]
  simp only [List.getElem?_cons_succ]
  exact find_at l k (fun j h hj => by have h3 := h1 (j + 1) (by simp; exact h) (by omega); exact h3) (fun h => by have h3 := h2 (by simp; exact h); exact h3)
/-- Where one stands who has gone through so many. -/
def curAt (es : List EntD) : Nat -> Int × Int
 | 0 => (-1, -1)
 | k + 1 => match es[k]? with | some e => (e.h, e.i) | none => (-1, -1)
theorem curAt_succ {es : List EntD} {k : Nat} (hk : k < es.length) : curAt es (k + 1) = (es[k].h, es[k].i) := by show (match es[k]? with | some e => (e.h, e.i) | none => (-1, -1)) = _; rw [List.getElem?_eq_getElem hk]
theorem next_at {es : List EntD} (hd : dirOkB es = true) : ∀ k, k <= es.length -> es.find? (fun e => behB e (curAt es k).1 (curAt es k).2) = es[k]?
 | 0, _ => by
  refine find_at es 0 (fun j h hj => by omega) fun h => ?_
  have := ent_pos hd (List.getElem_mem h)
  unfold behB curAt
  simp only [Bool.or_eq_true, Bool.and_eq_true, decide_eq_true_eq]
  omega
 | k + 1, hk => by
  have hk' : k < es.length := by omega
  rw [curAt_succ hk']
  refine find_at es (k + 1) (fun j h hj => ?_) fun h => dir_lessW hd (by omega) h
  by_cases hjk : j = k
  ·subst hjk; unfold behB; simp
  ·have := dir_lessW hd (show j < k by omega) hk'
   unfold behB at this ⊢
   simp only [Bool.or_eq_true, Bool.and_eq_true, decide_eq_true_eq] at this
   simp only [Bool.or_eq_false_iff, Bool.and_eq_false_iff, decide_eq_false_iff_not]
   omega
/-- The names of a directory. -/
def namesOf (es : List EntD) : List ByteArray := es.map (·.s)
theorem names_succ {es : List EntD} {k : Nat} (hk : k < es.length) : namesOf (es.take (k + 1)) = namesOf (es.take k) ++ [es[k].s] := by
 unfold namesOf; rw [List.take_succ_eq_append_getElem hk, List.map_append]; rfl
theorem names_all {es : List EntD} {k : Nat} (hk : es.length <= k) : namesOf (es.take k) = namesOf es := by rw [List.take_of_length_le hk]

theorem cur_full {V : VolD} {s : ByteArray} (h : (curP V s).2 = 0) : VolP V.nx V.xs /\ ∃ (a : Int) (k : Nat) (hk : k < V.xs.length), curP V s = (⟨a, -1, -1⟩, 0) /\ plc V.xs a = (k : Int) /\ V.xs[k].kd = 2 /\ dirOkB V.xs[k].es = true := by
 rcases cur_cases V s with ⟨h1, h2⟩ | ⟨h1, hv, k, hk, hpk, hid, ⟨hd, h2⟩ | ⟨hd, h2⟩⟩
 ·rw [h2] at h; exact absurd h h1
 ·rw [h2] at h; simp at h
 ·exact ⟨hv, _, k, hk, h2, hpk, hd, hv.dirOk (List.getElem_mem hk) hd⟩
/-- What ListDir gives. -/
noncomputable def listW (V : VolD) (s : ByteArray) : List ByteArray × Int := if (curP V s).2 = 0 then (namesOf (entsOf V.xs (curP V s).1.d), 0) else ([], (curP V s).2)
theorem listW_bad {V : VolD} {s : ByteArray} (h : (curP V s).2 ≠ 0) : listW V s = ([], (curP V s).2) := by unfold listW; rw [if_neg h]
theorem listW_ok {V : VolD} {s : ByteArray} {k : Nat} (hk : k < V.xs.length) (h : (curP V s).2 = 0) (hp : plc V.xs (curP V s).1.d = (k : Int)) : listW V s = (namesOf V.xs[k].es, 0) := by
 unfold listW entsOf; rw [if_pos h, hp, Int.toNat_natCast, List.getElem?_eq_getElem hk]
def ListPost (w : World) (P : List ByteArray × Int) (e : Ending) (w' : World) : Prop :=
 Below w.heap.size w w' /\ ∃ v, e = .returned (.tuple #[v, .int .i64 P.2]) /\ w'.ownsRow w.heap.size 9 1 v P.1.length (SS P.1)
theorem list_end {w w' : World} {P : List ByteArray × Int} {l : List ByteArray} {q : Int} {n : Nat} {v : Value} (h : P = (l, q)) (hn : n = l.length) (hb : Below w.heap.size w w') (ho : w'.ownsRow w.heap.size 9 1 v n (SS l)) : ListPost w P (.returned (.tuple #[v, .int .i64 q])) w' := by
 subst h; subst hn; exact ⟨hb, v, rfl, ho⟩
theorem SS_snoc (l : List ByteArray) (x : ByteArray) : SS (l ++ [x]) = SS l ++ [.string x] := by unfold SS; rw [List.map_append]; rfl
theorem names_len (es : List EntD) : (namesOf es).length = es.length := by unfold namesOf; rw [List.length_map]

/-- The next entry's place and name, and the code. -/
def nxC (es : List EntD) (x y : Int) : Int × Int × ByteArray × Int := match es.find? (fun e => behB e x y) with | some E => (E.h, E.i, E.s, 0) | none => (x, y, ⟨#[]⟩, 2)
theorem nx_cases {es : List EntD} (hd : dirOkB es = true) (x y : Int) : ∃ E fb, nxtP es x y = (E, fb) /\ ((fb = true /\ nxC es x y = (E.h, E.i, E.s, 0)) ∨ (fb = false /\ nxC es x y = (x, y, ⟨#[]⟩, 2))) := by
 rcases hf : es.find? (fun e => behB e x y) with _ | E
 ·exact ⟨_, _, nxtP_none hd hf, .inr ⟨rfl, by unfold nxC; rw [hf]⟩⟩
 ·exact ⟨_, _, nxtP_some hd hf, .inl ⟨rfl, by unfold nxC; rw [hf]⟩⟩
theorem own_scL {w : World} {base n size : Nat} {e : TypeId} {v : Value} {xs : List Value} (h : w.ownsRow base e size v n xs) {g : Nat} (o : Nat) (hg : v.ownBlock ≠ some g) (u : Value) : (w.setCell ⟨g, o, none⟩ u).ownsRow base e size v n xs := by
 refine ⟨h.1, ?_⟩
 rcases h.2 with h2 | ⟨g', cap, cur, hv, hb, hh, r⟩
 ·exact .inl h2
 ·exact .inr ⟨g', cap, cur, hv, hb, (Below.heap_setCell w ⟨g, o, none⟩ u g' (by intro e; apply hg; rw [hv]; exact congrArg some e)).trans hh, r⟩

theorem curNext_spec (v : Value) (V : VolD) (sm : szV V <= 1048576) (hv : VolP V.nx V.xs) (a : Int) (k : Nat) (hk : k < V.xs.length) (hpl : plc V.xs a = (k : Int)) (hd : V.xs[k].kd = 2) (x y : Int) (w : World) (hC : IsVolC w v V) :
  Calls Tryz.prog 49 #[v, .agg #[.int .i64 a, .int .i64 x, .int .i64 y]] w fun e w' => e = .returned (.tuple #[.agg #[.int .i64 a, .int .i64 (nxC V.xs[k].es x y).1, .int .i64 (nxC V.xs[k].es x y).2.1], .string (nxC V.xs[k].es x y).2.2.1, .int .i64 (nxC V.xs[k].es x y).2.2.2]) /\ Below w.heap.size w w' := by
 have hn := v_len sm
 have Hvo := Lib.hid (fun W hW => volOk_spec v V sm W hW)
 have hok := volOkB_iff.2 hv
 simp only [hok] at Hvo
 have Hat := Lib.hid (fun W hW => l6At_any v V hn a W hW)
 simp only [hpl] at Hat
 have hdk := hv.dirOk (List.getElem_mem hk) hd
 have hm12 := es_len hv (List.getElem_mem hk)
 have Hnm := Lib.hid (v_names sm (List.getElem_mem hk))
 have hvv := Lib.hid hC
 have h := hC.is
 obtain ⟨A, c, rfl, h⟩ := h
 obtain ⟨nx, xs⟩ := V
 simp only at Hvo Hat Hnm hdk hm12 hd hk h hn ⊢
 have H := Lib.hid h
 clear h hC hpl hv sm hok
 obtain ⟨es, hes⟩ : ∃ es, xs[k].es = es := ⟨_, rfl⟩
 have HE := Lib.hid hes
 simp only [hes] at Hnm hdk hm12 ⊢
 obtain ⟨E, fb, hN, hcase⟩ := nx_cases hdk x y
 obtain ⟨m, hm⟩ : ∃ m, es.length = m := ⟨_, rfl⟩
 have HM := Lib.hid hm
 have Hnx := Lib.hid (fun A c W hr => next_spec A m c es x y Hnm.out W (by omega) hr)
 rw [hm] at hm12
 simp only [hN] at Hnx
 obtain ⟨N, hNx⟩ : ∃ N, nxC es x y = N := ⟨_, rfl⟩
 rw [hNx] at hcase ⊢
 have Hcase := Lib.hid hcase
 clear hcase hNx hN hdk hm
 obtain ⟨n, hn'⟩ : ∃ n, xs.length = n := ⟨_, rfl⟩
 have HL := Lib.hid hn'
 have hkn : k < n := by omega
 simp only [hn'] at Hvo Hat hvv H hn
 clear hn'
 have q0 : (0 : Int) <= ↑k := by omega
 have q1 : (↑k : Int) < ↑n := by omega
 obtain ⟨W1, hW1⟩ : ∃ W1, ((w.alloc (.cells #[.int .i64 nx, .slice A n c] 26)).alloc (.cells #[.int .i64 a, .int .i64 x, .int .i64 y] 61)).alloc (.cells #[.int .i64 0, .int .i64 0, .int .i64 0] 61) = W1 := ⟨_, rfl⟩
 have B1 : Below w.heap.size w W1 := by rw [<- hW1]; exact belA (belA (belA (bel0 w) _) _) _
 have hV : Blk W1 w.heap.size 26 #[.int .i64 nx, .slice A n c] := by rw [<- hW1]; exact ((Blk.new' _ _ _ _ rfl).alloc _).alloc _
 have hK : Blk W1 (w.heap.size + 1) 61 #[.int .i64 a, .int .i64 x, .int .i64 y] := by rw [<- hW1]; exact (Blk.new' _ _ _ _ (by simp)).alloc _
 have hR : Blk W1 (w.heap.size + 2) 61 #[.int .i64 0, .int .i64 0, .int .i64 0] := by rw [<- hW1]; exact Blk.new' _ _ _ _ (by simp)
 have HW1 := Lib.hid hW1
 have VV := Lib.hid hV
 have KK := Lib.hid hK
 have RR := Lib.hid hR
 clear hW1 hV hK hR
 have v0 := VV.out.get (x := .int .i64 nx) 0 rfl
 have v1 := VV.out.get (x := .slice A n c) 1 rfl
 have hlen := HL.out
 simp only [HL.out]
 go_enter Tryz.func49, Tryz.ntmps49
 go_wp2_with fail
 rw [HW1.out]
 refine (Hvo.out W1 (hvv.out.next B1)).mono ?_
 rintro e w2 ⟨rfl, hb2⟩
 have B2 := belN B1 hb2
 have VV2 := Lib.hid (VV.out.below hb2 VV.out.lt)
 have KK2 := Lib.hid (KK.out.below hb2 KK.out.lt)
 have RR2 := Lib.hid (RR.out.below hb2 RR.out.lt)
 clear v0 v1 VV KK RR
 have v0 := VV2.out.get (x := .int .i64 nx) 0 rfl
 have v1 := VV2.out.get (x := .slice A n c) 1 rfl
 have k0 := KK2.out.get (x := .int .i64 a) 0 rfl
 go_wp2_with fail
 refine (Hat.out w2 (hvv.out.next B2).is).mono ?_
 rintro e w3 ⟨rfl, hb3⟩
 have B3 := belN B2 hb3
 have VV3 := Lib.hid (VV2.out.below hb3 VV2.out.lt)
 have KK3 := Lib.hid (KK2.out.below hb3 KK2.out.lt)
 have RR3 := Lib.hid (RR2.out.below hb3 RR2.out.lt)
 obtain ⟨_, b, o, A', c', hA, hadb, _, z1, _, _, z4, hrow⟩ := (H.out.next B3).at_ hkn
 subst hA
 rw [hd] at z1
 rw [HE.out, HM.out] at z4
 rw [HE.out, HM.out] at hrow
 have Hrow := Lib.hid hrow
 clear v0 v1 k0 VV2 KK2 RR2 hrow hd
 have v0 := VV3.out.get (x := .int .i64 nx) 0 rfl
 have v1 := VV3.out.get (x := .slice (some ⟨b, o, none⟩) n c) 1 rfl
 have k0 := KK3.out.get (x := .int .i64 a) 0 rfl
 have k1 := KK3.out.get (x := .int .i64 x) 1 rfl
 have k2 := KK3.out.get (x := .int .i64 y) 2 rfl
 obtain ⟨eh, ei, eS, ed⟩ := E
 go_wp2_with fail
 go_cut [8, 9] from 29 (fun p q wx => ∃ g : Nat, p = .pointer (some ⟨g, 0, none⟩) /\ q = .bool fb /\ Hid (Blk wx g 38 #[.int .i64 eh, .int .i64 ei, .string eS, .int .i64 ed]) /\ Below w3.heap.size w3 wx)
 case first =>
  refine wp_region_held_drew (S := fun w' => w'.cell? ⟨w.heap.size, 0, none⟩ = some (.int .i64 nx) /\ w'.cell? ⟨w.heap.size, 1, none⟩ = some (.slice (some ⟨b, o, none⟩) n c) /\ w'.cell? ⟨w.heap.size + 1, 1, none⟩ = some (.int .i64 x) /\ w'.cell? ⟨w.heap.size + 1, 2, none⟩ = some (.int .i64 y) /\ w'.cell? ⟨b, o + k * 5 + 4, none⟩ = some (.slice A' m c')) (by kernel_rfl) (by exact ⟨v0, v1, k1, k2, z4⟩) (fun hHeld => ?_)
  refine foldH ?_
  intro r0 hr0
  have bw0 : Below w3.heap.size w3 r0 := by rw [hr0]; exact (bel0 w3).drew
  clear hr0 hHeld
  refine tkW_ 0 ?_ (hS := by exact ⟨kp_ (bw0) v0, kp_ (bw0) v1, kp_ (bw0) k1, kp_ (bw0) k2, kp_ (bw0) z4⟩)
  refine tkW_ 1 ?_ (hS := by exact ⟨kp_ (bw0) v0, kp_ (bw0) v1, kp_ (bw0) k1, kp_ (bw0) k2, kp_ (bw0) z4⟩)
  refine tkW_ 2 ?_ (hS := by exact ⟨kp_ (bw0) v0, kp_ (bw0) v1, kp_ (bw0) k1, kp_ (bw0) k2, kp_ (bw0) z4⟩)
  refine tkW_ 3 ?_ (hS := by exact ⟨kp_ (bw0) v0, kp_ (bw0) v1, kp_ (bw0) k1, kp_ (bw0) k2, kp_ (bw0) z4⟩)
  refine tkW_ 4 ?_ (hS := by exact ⟨kp_ (bw0) v0, kp_ (bw0) v1, kp_ (bw0) k1, kp_ (bw0) k2, kp_ (bw0) z4⟩)
  refine tkW_ 5 ?_ (hS := by exact ⟨kp_ (bw0) v0, kp_ (bw0) v1, kp_ (bw0) k1, kp_ (bw0) k2, kp_ (bw0) z4⟩)
  refine tkW_ 6 ?_ (hS := by exact ⟨kp_ (bw0) v0, kp_ (bw0) v1, kp_ (bw0) k1, kp_ (bw0) k2, kp_ (bw0) z4⟩)
  refine tkW_ 7 ?_ (hS := by exact ⟨kp_ (bw0) v0, kp_ (bw0) v1, kp_ (bw0) k1, kp_ (bw0) k2, kp_ (bw0) z4⟩)
  refine tkW_ 8 ?_ (hS := by exact ⟨kp_ (bw0) v0, kp_ (bw0) v1, kp_ (bw0) k1, kp_ (bw0) k2, kp_ (bw0) z4⟩)
  refine tkW_ 9 ?_ (hS := by exact ⟨kp_ (bw0) v0, kp_ (bw0) v1, kp_ (bw0) k1, kp_ (bw0) k2, kp_ (bw0) z4⟩)
  refine rd2_ 10 14 (fun K hK => ?br11) (fun K hK => ?br12)
  case br11 =>
   go_simp
   go_at_call 90
   refine (Hnx.out _ _ _ ((Hrow.out.below bw0).more (bw0).size)).mono ?_
   rintro e r1 ⟨⟨E1, fb1, hE1, rfl⟩, hb1r⟩
   have bw1 : Below w3.heap.size w3 r1 := bw0.trans (hb1r.mono bw0.size)
   refine hK.out _ _ (by exact ⟨kp_ (bw1) v0, kp_ (bw1) v1, kp_ (bw1) k1, kp_ (bw1) k2, kp_ (bw1) z4⟩) (fun _ => ?_)
   clear hK K
   obtain ⟨rfl, rfl⟩ : (⟨eh, ei, eS, ed⟩ : EntD) = E1 /\ fb = fb1 := by injection hE1 with h1 h2; exact ⟨h1, h2⟩
   refine tkW_ 11 ?_ (hS := by exact ⟨kp_ (bw1) v0, kp_ (bw1) v1, kp_ (bw1) k1, kp_ (bw1) k2, kp_ (bw1) z4⟩)
   refine tkW_ 12 ?_ (hS := by exact ⟨kp_ (bw1) v0, kp_ (bw1) v1, kp_ (bw1) k1, kp_ (bw1) k2, kp_ (bw1) z4⟩)
   refine tkW_ 13 ?_ (hS := by exact ⟨kp_ (bw1) v0, kp_ (bw1) v1, kp_ (bw1) k1, kp_ (bw1) k2, kp_ (bw1) z4⟩)
   refine rd1_ 14 (fun K hK => ?br16)
   case br16 =>
    go_simp
    refine hK.out _ _ (by exact ⟨kp_ (belA bw1 _) v0, kp_ (belA bw1 _) v1, kp_ (belA bw1 _) k1, kp_ (belA bw1 _) k2, kp_ (belA bw1 _) z4⟩) (fun _ => ?_)
    clear hK K
    refine foldH ?_
    intro r2 hr2
    have bw2 : Below w3.heap.size w3 r2 := by rw [hr2]; exact belA bw1 _
    have kX2 : Blk r2 r1.heap.size 38 #[.int .i64 0, .int .i64 0, .string ⟨#[]⟩, .int .i64 0] := by rw [hr2]; exact Blk.new' _ _ _ _ rfl
    have laX2 : w3.heap.size <= r1.heap.size := bw1.size
    clear hr2
    refine rd1_ 15 (fun K hK => ?br17)
    case br17 =>
     have x0 := kX2.get (x := .int .i64 0) 0 rfl
     have f0 := kX2.frozen 0
     have x1 := kX2.get (x := .int .i64 0) 1 rfl
     have f1 := kX2.frozen 1
     have x2 := kX2.get (x := .string ⟨#[]⟩) 2 rfl
     have f2 := kX2.frozen 2
     have x3 := kX2.get (x := .int .i64 0) 3 rfl
     have f3 := kX2.frozen 3
     have lE := kX2.lt
     go_simp
     refine hK.out _ _ (by exact ⟨kp_ (belC (belC (belC (belC (bw2) _ _ laX2 _) _ _ laX2 _) _ _ laX2 _) _ _ laX2 _) v0, kp_ (belC (belC (belC (belC (bw2) _ _ laX2 _) _ _ laX2 _) _ _ laX2 _) _ _ laX2 _) v1, kp_ (belC (belC (belC (belC (bw2) _ _ laX2 _) _ _ laX2 _) _ _ laX2 _) _ _ laX2 _) k1, kp_ (belC (belC (belC (belC (bw2) _ _ laX2 _) _ _ laX2 _) _ _ laX2 _) _ _ laX2 _) k2, kp_ (belC (belC (belC (belC (bw2) _ _ laX2 _) _ _ laX2 _) _ _ laX2 _) _ _ laX2 _) z4⟩) (fun _ => ?_)
     clear hK K x0 f0 x1 f1 x2 f2 x3 f3 lE
     refine foldH ?_
     intro r3 hr3
     have bw3 : Below w3.heap.size w3 r3 := by rw [hr3]; exact belC (belC (belC (belC (bw2) _ _ laX2 _) _ _ laX2 _) _ _ laX2 _) _ _ laX2 _
     have kX3 : Blk r3 r1.heap.size 38 #[.int .i64 eh, .int .i64 ei, .string eS, .int .i64 ed] := by rw [hr3]; exact ((((kX2).put 0 _ _ rfl).put 1 _ _ rfl).put 2 _ _ rfl).put 3 _ _ rfl
     clear hr3
     refine tkW_ 16 ?_ (hS := by exact ⟨kp_ (bw3) v0, kp_ (bw3) v1, kp_ (bw3) k1, kp_ (bw3) k2, kp_ (bw3) z4⟩)
     refine wpAnyH_done (by kernel_rfl) ?_ _
     go_wp2_with fail
     go_meet
     case rel => exact ⟨_, rfl, rfl, kX3, bw3⟩
  case br12 =>
   go_simp
   refine hK.out _ _ (by exact ⟨kp_ (belA bw0 _) v0, kp_ (belA bw0 _) v1, kp_ (belA bw0 _) k1, kp_ (belA bw0 _) k2, kp_ (belA bw0 _) z4⟩) (fun _ => ?_)
   clear hK K
   refine foldH ?_
   intro r1 hr1
   have bw1 : Below w3.heap.size w3 r1 := by rw [hr1]; exact belA bw0 _
   have kX1 : Blk r1 r0.heap.size 38 #[.int .i64 0, .int .i64 0, .string ⟨#[]⟩, .int .i64 0] := by rw [hr1]; exact Blk.new' _ _ _ _ rfl
   have laX1 : w3.heap.size <= r0.heap.size := bw0.size
   clear hr1
   refine rd1_ 10 (fun K hK => ?br19)
   case br19 =>
    go_simp
    go_at_call 90
    refine (Hnx.out _ _ _ ((Hrow.out.below bw1).more (bw1).size)).mono ?_
    rintro e r2 ⟨⟨E2, fb2, hE2, rfl⟩, hb2r⟩
    have bw2 : Below w3.heap.size w3 r2 := bw1.trans (hb2r.mono bw1.size)
    refine hK.out _ _ (by exact ⟨kp_ (bw2) v0, kp_ (bw2) v1, kp_ (bw2) k1, kp_ (bw2) k2, kp_ (bw2) z4⟩) (fun _ => ?_)
    clear hK K
    have kX2 := kX1.below hb2r kX1.lt
    obtain ⟨rfl, rfl⟩ : (⟨eh, ei, eS, ed⟩ : EntD) = E2 /\ fb = fb2 := by injection hE2 with h1 h2; exact ⟨h1, h2⟩
    refine tkW_ 11 ?_ (hS := by exact ⟨kp_ (bw2) v0, kp_ (bw2) v1, kp_ (bw2) k1, kp_ (bw2) k2, kp_ (bw2) z4⟩)
    refine tkW_ 12 ?_ (hS := by exact ⟨kp_ (bw2) v0, kp_ (bw2) v1, kp_ (bw2) k1, kp_ (bw2) k2, kp_ (bw2) z4⟩)
    refine tkW_ 13 ?_ (hS := by exact ⟨kp_ (bw2) v0, kp_ (bw2) v1, kp_ (bw2) k1, kp_ (bw2) k2, kp_ (bw2) z4⟩)
    refine rd1_ 15 (fun K hK => ?br23)
    case br23 =>
     have x0 := kX2.get (x := .int .i64 0) 0 rfl
     have f0 := kX2.frozen 0
     have x1 := kX2.get (x := .int .i64 0) 1 rfl
     have f1 := kX2.frozen 1
     have x2 := kX2.get (x := .string ⟨#[]⟩) 2 rfl
     have f2 := kX2.frozen 2
     have x3 := kX2.get (x := .int .i64 0) 3 rfl
     have f3 := kX2.frozen 3
     have lE := kX2.lt
     go_simp
     refine hK.out _ _ (by exact ⟨kp_ (belC (belC (belC (belC (bw2) _ _ laX1 _) _ _ laX1 _) _ _ laX1 _) _ _ laX1 _) v0, kp_ (belC (belC (belC (belC (bw2) _ _ laX1 _) _ _ laX1 _) _ _ laX1 _) _ _ laX1 _) v1, kp_ (belC (belC (belC (belC (bw2) _ _ laX1 _) _ _ laX1 _) _ _ laX1 _) _ _ laX1 _) k1, kp_ (belC (belC (belC (belC (bw2) _ _ laX1 _) _ _ laX1 _) _ _ laX1 _) _ _ laX1 _) k2, kp_ (belC (belC (belC (belC (bw2) _ _ laX1 _) _ _ laX1 _) _ _ laX1 _) _ _ laX1 _) z4⟩) (fun _ => ?_)
     clear hK K x0 f0 x1 f1 x2 f2 x3 f3 lE
     refine foldH ?_
     intro r3 hr3
     have bw3 : Below w3.heap.size w3 r3 := by rw [hr3]; exact belC (belC (belC (belC (bw2) _ _ laX1 _) _ _ laX1 _) _ _ laX1 _) _ _ laX1 _
     have kX3 : Blk r3 r0.heap.size 38 #[.int .i64 eh, .int .i64 ei, .string eS, .int .i64 ed] := by rw [hr3]; exact ((((kX2).put 0 _ _ rfl).put 1 _ _ rfl).put 2 _ _ rfl).put 3 _ _ rfl
     clear hr3
     refine tkW_ 16 ?_ (hS := by exact ⟨kp_ (bw3) v0, kp_ (bw3) v1, kp_ (bw3) k1, kp_ (bw3) k2, kp_ (bw3) z4⟩)
     refine wpAnyH_done (by kernel_rfl) ?_ _
     go_wp2_with fail
     go_meet
     case rel => exact ⟨_, rfl, rfl, kX3, bw3⟩
 case rest =>
  obtain ⟨g, rfl, rfl, hG, hb4⟩ := hcut
  have B4 := belN B3 hb4
  have KK4 := KK3.out.below hb4 KK3.out.lt
  have RR4 := RR3.out.below hb4 RR3.out.lt
  clear v0 v1 k0 k1 k2 z1 z4
  have k0 := KK4.get (x := .int .i64 a) 0 rfl
  have k1 := KK4.get (x := .int .i64 x) 1 rfl
  have k2 := KK4.get (x := .int .i64 y) 2 rfl
  have r0 := RR4.get (x := .int .i64 0) 0 rfl
  have r1 := RR4.get (x := .int .i64 0) 1 rfl
  have r2 := RR4.get (x := .int .i64 0) 2 rfl
  obtain ⟨f0, f1, f2⟩ := RR4.f3
  have lR := RR4.lt
  have g0 := hG.out.get (x := .int .i64 eh) 0 rfl
  have g1 := hG.out.get (x := .int .i64 ei) 1 rfl
  have g2 := hG.out.get (x := .string eS) 2 rfl
  have nG : g ≠ w.heap.size + 1 + 1 := Blk.ne_ hG.out RR4 (by decide)
  have nG' := nG.symm
  rcases Hcase.out with ⟨rfl, rfl⟩ | ⟨rfl, rfl⟩
  ·go_wp2_with fail
   go_region
   all_goals
    go_wp2
    refine bodyPost_ret (v := .tuple #[.agg #[.int .i64 a, .int .i64 eh, .int .i64 ei], .string eS, .int .i64 0]) (by simp [results, Tryz.results49, go_sem, r0, r1, r2]) rfl ⟨rfl, ?_⟩
    repeat (first | refine belC ?_ _ _ (by omega) _ | exact B4 | apply Below.drew)
  ·go_wp2
   refine bodyPost_ret (v := .tuple #[.agg #[.int .i64 a, .int .i64 x, .int .i64 y], .string ⟨#[]⟩, .int .i64 2]) (by simp [results, Tryz.results49, go_sem, r0, r1, r2]) rfl ⟨rfl, ?_⟩
   repeat (first | refine belC ?_ _ _ (by omega) _ | exact B4 | apply Below.drew)

theorem listDir_spec (v : Value) (V : VolD) (sm : szV V <= 1048576) (s : ByteArray) (hs : s.size <= 2000000) (w : World) (hC : IsVolC w v V) :
  Calls Tryz.prog 11 #[v, .string s] w (ListPost w (listW V s)) := by
 have Hcur := Lib.hid (fun W hW => curOpen_spec v V sm s hs W hW)
 have Hnx := Lib.hid (fun hv a k hk hpl hd x y W hW => curNext_spec v V sm hv a k hk hpl hd x y W hW)
 have Hfull := Lib.hid (cur_full (V := V) (s := s))
 have Hbad := Lib.hid (listW_bad (V := V) (s := s))
 have Hok := Lib.hid (fun k hk => listW_ok (V := V) (s := s) (k := k) hk)
 have hvv := Lib.hid hC
 obtain ⟨A, c, rfl, _⟩ := hC
 obtain ⟨nx, xs⟩ := V
 simp only at Hcur Hnx Hfull Hok ⊢
 clear sm
 obtain ⟨Q, hQ⟩ : ∃ Q, curP ⟨nx, xs⟩ s = Q := ⟨_, rfl⟩
 simp only [hQ] at Hcur Hfull Hbad Hok
 clear hQ
 obtain ⟨R, hR⟩ : ∃ R, listW ⟨nx, xs⟩ s = R := ⟨_, rfl⟩
 simp only [hR] at Hbad Hok
 rw [hR]
 clear hR
 obtain ⟨W1, hW1⟩ : ∃ W1, (w.alloc (.cells #[.int .i64 nx, .slice A xs.length c] 26)).alloc (.cells #[] 9) = W1 := ⟨_, rfl⟩
 have B1 : Below w.heap.size w W1 := by rw [<- hW1]; exact belA (belA (bel0 w) _) _
 have hV : Blk W1 w.heap.size 26 #[.int .i64 nx, .slice A xs.length c] := by rw [<- hW1]; exact (Blk.new' _ _ _ _ rfl).alloc _
 have own1 : W1.ownsRow w.heap.size 9 1 (.slice (some ⟨w.heap.size + 1, 0, none⟩) 0 0) 0 (SS (namesOf [])) := by
  rw [<- hW1]
  refine own_more (base := (w.alloc (.cells #[.int .i64 nx, .slice A xs.length c] 26)).heap.size) ?_ (by simp)
  have := World.ownsRow_lit (w.alloc (.cells #[.int .i64 nx, .slice A xs.length c] 26)) #[] 0 (e := 9) (size := 1) (Nat.le_refl _) (by unfold maxLen; omega) rfl
  simpa [namesOf, SS] using this
 have HW1 := Lib.hid hW1
 have Own1 := Lib.hid own1
 have VB1 := Lib.hid hV
 have V0 := Lib.hid (hV.get (x := .int .i64 nx) 0 rfl)
 have V1 := Lib.hid (hV.get (x := .slice A xs.length c) 1 rfl)
 clear hW1 hV own1
 go_enter Tryz.func11, Tryz.ntmps11
 have v0 := V0.out
 have v1 := V1.out
 go_upto_region 2 with fail
 try rw [HW1.out]
 go_wp2_with fail
 try rw [HW1.out]
 refine (Hcur.out W1 (hvv.out.next B1)).mono ?_
 rintro e w2 ⟨⟨E, code, hE, rfl⟩, hb2⟩
 subst hE
 obtain ⟨d, hh, ii⟩ := E
 simp only at Hfull Hbad Hok
 have B2 := belN B1 hb2
 clear v0 v1
 have v0 := kp_ hb2 V0.out
 have v1 := kp_ hb2 V1.out
 have Own2 := Lib.hid (own_below Own1.out hb2 (Nat.le_refl _))
 by_cases hc : code = 0
 ·subst hc
  obtain ⟨hv, a, k, hk, he, hpl, hd, hdk⟩ := Hfull.out rfl
  obtain ⟨rfl, rfl, rfl⟩ : d = a /\ hh = -1 /\ ii = -1 := by simpa using he
  have Hg := Lib.hid (Hok.out k hk rfl hpl)
  have hm12 := es_len hv (List.getElem_mem hk)
  have Hn := Lib.hid (fun x y W hW => Hnx.out hv d k hk hpl hd x y W hW)
  clear he hpl hd hv Hok Hbad Hfull Hcur Hnx
  obtain ⟨es, hes⟩ : ∃ es, xs[k].es = es := ⟨_, rfl⟩
  rw [hes] at hm12 hdk
  simp only [hes] at Hg Hn
  have Hdk := Lib.hid hdk
  obtain ⟨m, hm⟩ : ∃ m, es.length = m := ⟨_, rfl⟩
  have HM := Lib.hid hm
  rw [hm] at hm12
  clear hes hm hdk
  have b3 : Below w2.heap.size w2 (w2.alloc (.cells #[.int .i64 d, .int .i64 (-1), .int .i64 (-1)] 61)) := belA (bel0 _) _
  obtain ⟨w3, hw3⟩ : ∃ W, w2.alloc (.cells #[.int .i64 d, .int .i64 (-1), .int .i64 (-1)] 61) = W := ⟨_, rfl⟩
  have hcu : Blk w3 w2.heap.size 61 #[.int .i64 d, .int .i64 (-1), .int .i64 (-1)] := by rw [<- hw3]; exact Blk.new' _ _ _ _ rfl
  have Hw3 := Lib.hid hw3
  rw [hw3] at b3
  have Own3 := Lib.hid (own_below Own2.out b3 (Nat.le_refl _))
  have VB3 := Lib.hid ((VB1.out.below hb2 VB1.out.lt).below b3 (Nat.lt_of_lt_of_le VB1.out.lt hb2.size))
  have B3 := belN B2 b3
  have C3 := Lib.hid hcu
  have lC := B2.size
  clear hcu hw3
  go_wp2
  try rw [Hw3.out]
  clear v0 v1
  go_loopw [6, 9] (fun x i wr => ∃ (p g c8 : Nat), p <= m /\ i = .int .i64 p /\ x = .slice (some ⟨g, 0, none⟩) p c8 /\ Hid (wr.ownsRow w.heap.size 9 1 (.slice (some ⟨g, 0, none⟩) p c8) p (SS (namesOf (es.take p)))) /\ Hid (Blk wr w2.heap.size 61 #[.int .i64 d, .int .i64 (curAt es p).1, .int .i64 (curAt es p).2]) /\ Hid (Blk wr w.heap.size 26 #[.int .i64 nx, .slice A xs.length c]) /\ Below w.heap.size w wr)
   (fun _ i _ => m - (intOf i).toNat)
  case atStart => exact ⟨0, w.heap.size + 1, 0, by omega, rfl, rfl, by rw [List.take_zero]; exact Own3.out, C3.out, VB3.out, B3⟩
  case round =>
   obtain ⟨p, g, c8, hp, rfl, rfl, hown, hCb, hVb, hbel⟩ := hrel
   have hsz := hbel.size
   have q0 : (↑p : Int) <= 12 := by omega
   have v0 := hVb.out.get (x := .int .i64 nx) 0 rfl
   have v1 := hVb.out.get (x := .slice A xs.length c) 1 rfl
   have hnx := next_at Hdk.out p (by have := HM.out; omega)
   have c0 := hCb.out.get (x := .int .i64 d) 0 rfl
   have c1 := hCb.out.get (x := .int .i64 (curAt es p).1) 1 rfl
   have c2 := hCb.out.get (x := .int .i64 (curAt es p).2) 2 rfl
   by_cases hlt : p < m
   ·have hpx : p < es.length := by have := HM.out; omega
    have Hst := Lib.hid (names_succ hpx)
    have Hcs := Lib.hid (curAt_succ hpx)
    rw [List.getElem?_eq_getElem hpx] at hnx
    have hN : nxC es (curAt es p).1 (curAt es p).2 = (es[p].h, es[p].i, es[p].s, 0) := by unfold nxC; rw [hnx]
    have Hn2 := Lib.hid (Hn.out (curAt es p).1 (curAt es p).2)
    simp only [hN] at Hn2
    obtain ⟨x, hx⟩ : ∃ x, (curAt es p).1 = x := ⟨_, rfl⟩
    obtain ⟨y, hy⟩ : ∃ y, (curAt es p).2 = y := ⟨_, rfl⟩
    simp only [hx, hy] at Hn2 c1 c2 hCb
    clear hnx hN hx hy
    obtain ⟨e, he⟩ : ∃ e, es[p] = e := ⟨_, rfl⟩
    rw [he] at Hst Hcs
    simp only [he] at Hn2
    clear he
    obtain ⟨eh, ei, eS, ed⟩ := e
    simp only at Hst Hcs Hn2
    go_wp2_with fail
    refine (Hn2.out _ (hvv.out.next hbel)).mono ?_
    rintro e w4 ⟨rfl, hb4⟩
    have B4 := belN hbel hb4
    have hsz4 := B4.size
    have hown4 := own_below hown.out hb4 (Nat.le_refl _)
    have C4 := hCb.out.below hb4 hCb.out.lt
    have lC4 := C4.lt
    have V6 := ((hVb.out.below hb4 hVb.out.lt).alloc (.cells #[.int .i64 d, .int .i64 eh, .int .i64 ei] 61)).alloc (.cells #[.string eS] 9)
    have X5 := Blk.new' w4 61 #[.int .i64 d, .int .i64 eh, .int .i64 ei] w4.heap.size
    have C5 := C4.alloc (.cells #[.int .i64 d, .int .i64 eh, .int .i64 ei] 61)
    have X6 := X5.alloc (.cells #[.string eS] 9)
    have C6 := C5.alloc (.cells #[.string eS] 9)
    have own6 := (hown4.alloc (.cells #[.int .i64 d, .int .i64 eh, .int .i64 ei] 61)).alloc (.cells #[.string eS] 9)
    have nX := own_blk_ne own6 X6 (by decide)
    have nC := own_blk_ne own6 C6 (by decide)
    have nV := own_blk_ne own6 V6 (by decide)
    have hrn : Reads ((w4.alloc (.cells #[.int .i64 d, .int .i64 eh, .int .i64 ei] 61)).alloc (.cells #[.string eS] 9)) (w4.heap.size + 1 + 1) 1 (some ⟨w4.heap.size + 1, 0, none⟩) 1 [.string eS] := by have := reads_new (w4.alloc (.cells #[.int .i64 d, .int .i64 eh, .int .i64 ei] 61)) #[.string eS] 9 1 1 (by rfl); simpa using this
    clear v0 v1 c0 c1 c2 X5 C5 C4
    go_wp2_with (at_builtin; go_must (refine wpList_app _ rfl _ _ _ rfl Tryz.el_str own6 rfl hrn rfl (by simp [Value.oneCell']) (max_small (by omega)) (by omega) (by simp; omega) ?_); intro v2 w9 own2 hg2 hat2 hb9; have X9 := X6.grown hg2 (Ne.symm nX); have C9 := C6.grown hg2 (Ne.symm nC); have V9 := V6.grown hg2 (Ne.symm nV); obtain ⟨g2, c2, rfl⟩ := own_form1 own2 (by omega); have x0 := X9.get (x := .int .i64 d) 0 rfl; have x1 := X9.get (x := .int .i64 eh) 1 rfl; have x2 := X9.get (x := .int .i64 ei) 2 rfl; have c0 := C9.get (x := .int .i64 d) 0 rfl; have c1 := C9.get (x := .int .i64 x) 1 rfl; have c2' := C9.get (x := .int .i64 y) 2 rfl; have f0 := C9.frozen 0; have f1 := C9.frozen 1; have f2 := C9.frozen 2; have lC9 := C9.lt)
    have nC2 := own_blk_ne own2 C9 (by decide)
    have hgl := ((((hbel.trans (hb4.mono hbel.size)).alloc hsz4 (.cells #[.int .i64 d, .int .i64 eh, .int .i64 ei] 61)).alloc (by simp; omega) (.cells #[.string eS] 9))).trans hb9
    go_roundw
    case rel =>
     refine ⟨p + 1, g2, c2, by omega, by go_num, rfl, ?_, ?_, ?_, belC (belC (belC hgl _ _ lC _) _ _ lC _) _ _ lC _⟩
     ·rw [Hst.out, SS_snoc]; exact own_scL (own_scL (own_scL own2 0 nC2 _) 1 nC2 _) 2 nC2 _
     ·rw [Hcs.out]; exact ((C9.put 0 _ _ rfl).put 1 _ _ rfl).put 2 _ _ rfl
     ·have nCV : w.heap.size ≠ w2.heap.size := V9.ne_ C9 (by decide)
      exact ((V9.far nCV _).far nCV _).far nCV _
    case measure => simp [intOf]; omega
   ·obtain rfl : p = m := by omega
    have hN : nxC es (curAt es p).1 (curAt es p).2 = ((curAt es p).1, (curAt es p).2, ⟨#[]⟩, 2) := by unfold nxC; rw [hnx, List.getElem?_eq_none (by have := HM.out; omega)]
    have Hn2 := Lib.hid (Hn.out (curAt es p).1 (curAt es p).2)
    simp only [hN] at Hn2
    have Hf := Lib.hid (names_all (es := es) (k := p) (by have := HM.out; omega))
    have hown2 := hown.out
    rw [Hf.out] at hown2
    obtain ⟨x, hx⟩ : ∃ x, (curAt es p).1 = x := ⟨_, rfl⟩
    obtain ⟨y, hy⟩ : ∃ y, (curAt es p).2 = y := ⟨_, rfl⟩
    simp only [hx, hy] at Hn2 c1 c2
    clear hnx hN hx hy
    go_wp2_with fail
    refine (Hn2.out _ (hvv.out.next hbel)).mono ?_
    rintro e w4 ⟨rfl, hb4⟩
    have hown4 := own_below hown2 hb4 (Nat.le_refl _)
    go_wp2
    refine bodyPost_ret (v := .tuple #[.slice (some ⟨g, 0, none⟩) p c8, .int .i64 0]) (by simp [results, Tryz.results11, go_sem]) rfl ?_
    exact list_end Hg.out (by rw [names_len, HM.out]) (belA (belN hbel hb4) _) (hown4.alloc _)
 ·have Hg := Lib.hid (Hbad.out hc)
  have hc1 : (code != 0) = true := by simpa using hc
  clear hc Hfull Hbad Hok
  go_wp2
  refine bodyPost_ret (v := .tuple #[.slice (some ⟨w.heap.size + 1, 0, none⟩) 0 0, .int .i64 code]) (by simp [results, Tryz.results11, go_sem]) rfl ?_
  refine list_end Hg.out rfl (belA B2 _) ?_
  have := Own2.out.alloc (.cells #[.int .i64 d, .int .i64 hh, .int .i64 ii] 61)
  simpa [namesOf, SS] using this

end Go.Proofs.YtjjniapamdleoaaGreatDoor
