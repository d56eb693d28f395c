/- How deep an inode is, in both packages. -/
import Derived.Test.YtjjniapamdleoaaGreatDoorRSVolOk
namespace Go.Proofs.YtjjniapamdleoaaGreatDoor
open Go Go.RowKit
set_option maxHeartbeats 4000000
set_option maxRecDepth 100000

def hasE (a : Int) (es : List EntD) : Bool := es.any (fun e => e.d == a)
/-- The least of 16 and one more than those that have it among the first so many. -/
def deepI (xs : List InoD) (T : Int -> Int) (a : Int) : Nat -> Int
 | 0 => 16
 | k + 1 => match xs[k]? with | none => deepI xs T a k | some x => if hasE a x.es then min (deepI xs T a k) (1 + T x.id) else deepI xs T a k
theorem deepI_succ {xs : List InoD} {T : Int -> Int} {a : Int} {k : Nat} (hk : k < xs.length) : deepI xs T a (k + 1) = if hasE a xs[k].es then min (deepI xs T a k) (1 + T xs[k].id) else deepI xs T a k := by
 rw [deepI, List.getElem?_eq_getElem hk]
theorem deepI_bd {xs : List InoD} {T : Int -> Int} {a : Int} (h : ∀ i, 0 <= T i /\ T i <= 15) : ∀ k, 0 <= deepI xs T a k /\ deepI xs T a k <= 16
 | 0 => by simp [deepI]
 | k + 1 => by
  have ih := deepI_bd (xs := xs) (a := a) h k
  rw [deepI]
  split
  ·exact ih
  ·rename_i x _
   have := h x.id
   split <;> omega
/-- Whether one of the first so many has it. -/
def fndI (xs : List InoD) (a : Int) (k : Nat) : Bool := (xs.take k).any (fun x => hasE a x.es)
theorem fndI_succ {xs : List InoD} {a : Int} {k : Nat} (hk : k < xs.length) : fndI xs a (k + 1) = (fndI xs a k || hasE a xs[k].es) := by
 unfold fndI; rw [List.take_succ_eq_append_getElem hk, List.any_append]; simp
theorem deepI_none {xs : List InoD} {T : Int -> Int} {a : Int} : ∀ k, fndI xs a k = false -> deepI xs T a k = 16
 | 0, _ => rfl
 | k + 1, h => by
  rw [deepI]
  split
  ·rename_i hx
   refine deepI_none k ?_
   have hl : xs.length <= k := by
    rcases Nat.lt_or_ge k xs.length with hlt | hge
    ·rw [List.getElem?_eq_getElem hlt] at hx; cases hx
    ·exact hge
   unfold fndI at h ⊢
   rw [List.take_of_length_le hl]; rw [List.take_of_length_le (by omega)] at h; exact h
  ·rename_i x hx
   obtain ⟨hk, rfl⟩ := List.getElem?_eq_some_iff.1 hx
   rw [fndI_succ hk, Bool.or_eq_false_iff] at h
   rw [if_neg (by rw [h.2]; simp)]
   exact deepI_none k h.1
theorem deepI_same {xs : List InoD} {T : Int -> Int} {a d : Int} (hd : 0 <= d /\ d <= 15) (h : ∀ x ∈ xs, hasE a x.es = true -> T x.id = d) : ∀ k, fndI xs a k = true -> deepI xs T a k = 1 + d
 | 0, hf => by simp [fndI] at hf
 | k + 1, hf => by
  rw [deepI]
  split
  ·rename_i hx
   refine deepI_same hd h k ?_
   have hl : xs.length <= k := by
    rcases Nat.lt_or_ge k xs.length with hlt | hge
    ·rw [List.getElem?_eq_getElem hlt] at hx; cases hx
    ·exact hge
   unfold fndI at hf ⊢
   rw [List.take_of_length_le hl]; rw [List.take_of_length_le (by omega)] at hf; exact hf
  ·rename_i x hx
   obtain ⟨hk, rfl⟩ := List.getElem?_eq_some_iff.1 hx
   rw [fndI_succ hk] at hf
   cases hb : hasE a xs[k].es with
   | true =>
    rw [if_pos rfl, h _ (List.getElem_mem hk) hb]
    cases hf2 : fndI xs a k with
    | true => rw [deepI_same hd h k hf2]; omega
    | false => rw [deepI_none k hf2]; omega
   | false =>
    rw [hb, Bool.or_false] at hf
    rw [if_neg (by simp)]
    exact deepI_same hd h k hf
theorem fndI_all {xs : List InoD} {a : Int} : fndI xs a xs.length = true ↔ ∃ x ∈ xs, ∃ e ∈ x.es, e.d = a := by
 unfold fndI hasE
 rw [List.take_length, List.any_eq_true]
 simp only [List.any_eq_true, beq_iff_eq]
theorem hasE_iff {a : Int} {es : List EntD} : hasE a es = true ↔ ∃ e ∈ es, e.d = a := by unfold hasE; simp
/-- What DeepOf gives. -/
noncomputable def deepP (V : VolD) (a : Int) : Int := if volOkB V.nx V.xs = true /\ 0 <= plc V.xs a then (if a = 1 then 0 else deepI V.xs (fun i => (min (dpt V.xs i) 15 : Nat)) a V.xs.length) else -1
theorem dpt_bd (xs : List InoD) (i : Int) : 0 <= ((min (dpt xs i) 15 : Nat) : Int) /\ ((min (dpt xs i) 15 : Nat) : Int) <= 15 := by omega
theorem up_is {nx : Int} {xs : List InoD} (h : VolP nx xs) {x : InoD} (hx : x ∈ xs) {a : Int} (he : hasE a x.es = true) : IsDirI xs x.id := by
 obtain ⟨e, hm, _⟩ := hasE_iff.1 he
 exact ⟨x, hx, rfl, h.dir hx (List.ne_nil_of_mem hm)⟩
/-- Above a directory stands one alone. -/
theorem up_one {nx : Int} {xs : List InoD} (h : VolP nx xs) {a : Int} (ha : a ≠ 1) (hd : IsDirI xs a) : ∃ b, IsDirI xs b /\ dpt xs a = dpt xs b + 1 /\ fndI xs a xs.length = true /\ ∀ x ∈ xs, hasE a x.es = true -> x.id = b := by
 obtain ⟨x, hx, e, he, hea, hdx, hp, h1, _⟩ := dir_up h ha hd
 refine ⟨x.id, hdx, h1, fndI_all.2 ⟨x, hx, e, he, hea⟩, fun y hy hh => ?_⟩
 obtain ⟨f, hf, hfa⟩ := hasE_iff.1 hh
 have hm := pairs_mem.2 ⟨y, hy, f, hf, hfa, rfl⟩
 rw [hp, List.mem_singleton] at hm
 injection hm

theorem indexFunc_deep (p : EntD -> Bool) (cap : Value) (A : Option Addr) (n c : Nat) (ds : List EntD) (hn : n <= 9223372036854775807) (w : World) (hr : Reads w w.heap.size 4 A n (ES ds))
  (hcl : ∀ W, Below w.heap.size w W -> ∀ e ∈ ds, Calls Tryz.prog 100 #[.agg #[.int .i64 e.h, .int .i64 e.i, .string e.s, .int .i64 e.d], cap] W fun r w' => r = .returned (.bool (p e)) /\ Below W.heap.size W w') :
  Calls Tryz.prog 144 #[.slice A n c, .func (.func 100) #[] #[cap]] w fun e w' => ∃ r : Int, e = .returned (.int .i64 r) /\ IdxE ds p r /\ Below w.heap.size w w' := by
 have hl : ds.length = n := by have := hr.1; rw [ES_length] at this; omega
 have Hr := Lib.hid hr
 have HL := Lib.hid hl
 have Hcl := Lib.hid hcl
 clear hr hl hcl
 go_enter Tryz.func144, Tryz.ntmps144
 go_wp2
 go_loopw [8] (fun i wr => ∃ (k : Nat), k <= n /\ i = .int .i64 k /\ Hid ((ds.take k).find? p = none) /\ Below w.heap.size w wr)
  (fun i _ => n - (intOf i).toNat)
 case atStart => exact ⟨0, by omega, rfl, by simp [Hid], bel0 w⟩
 case round =>
  obtain ⟨k, hk, rfl, hnone, hbel⟩ := hrel
  by_cases hlt : k < n
  ·obtain ⟨hkx, b, o, rfl, hadb, z0, z1, z2, z3⟩ := reads_ent (Hr.out.below hbel) hlt
   have q0 : (0 : Int) <= ↑k := by omega
   have q1 : (↑k : Int) < ↑n := by omega
   have hts := Lib.hid (List.take_succ_eq_append_getElem hkx)
   have hdr := Lib.hid (show ds = ds.take k ++ ds[k] :: ds.drop (k + 1) by rw [<- List.drop_eq_getElem_cons hkx, List.take_append_drop])
   have hck := Lib.hid (Hcl.out wr hbel ds[k] (List.getElem_mem hkx))
   obtain ⟨e, he⟩ : ∃ e, ds[k] = e := ⟨_, rfl⟩
   have He := Lib.hid he
   rw [he] at z0 z1 z2 z3 hts hdr hck
   clear he
   rcases hp : p e with _ | _
   ·have Hm := Lib.hid (find_miss (p := p) hnone.out hp)
    have Hp := Lib.hid hp
    clear hp
    go_wp2_with fail
    refine hck.out.mono ?_
    rintro r w2 ⟨rfl, hb2⟩
    rw [Hp.out]
    go_wp2
    go_roundw
    case rel => exact ⟨k + 1, by omega, by go_num, by show _ = _; rw [hts.out]; exact Hm.out, belN hbel hb2⟩
    case measure => simp [intOf]; omega
   ·have Hf := Lib.hid (show ds.find? p = some e by rw [hdr.out]; exact find_hit (p := p) hnone.out hp)
    have Hp := Lib.hid hp
    clear hp
    go_wp2_with fail
    refine hck.out.mono ?_
    rintro r w2 ⟨rfl, hb2⟩
    rw [Hp.out]
    go_wp2
    go_ret
    exact ⟨_, rfl, .inr ⟨k, hkx, rfl, by rw [Hf.out, He.out]⟩, belN hbel hb2⟩
  ·have Hf := Lib.hid (show ds.find? p = none by have := hnone.out; rwa [List.take_of_length_le (by have := HL.out; omega)] at this)
   go_wp2
   go_ret
   exact ⟨_, rfl, .inl ⟨rfl, Hf.out⟩, hbel⟩

theorem containsFunc_deep (p : EntD -> Bool) (cap : Value) (A : Option Addr) (n c : Nat) (ds : List EntD) (hn : n <= 9223372036854775807) (w : World) (hr : Reads w w.heap.size 4 A n (ES ds))
  (hcl : ∀ W, Below w.heap.size w W -> ∀ e ∈ ds, Calls Tryz.prog 100 #[.agg #[.int .i64 e.h, .int .i64 e.i, .string e.s, .int .i64 e.d], cap] W fun r w' => r = .returned (.bool (p e)) /\ Below W.heap.size W w') :
  Calls Tryz.prog 99 #[.slice A n c, .func (.func 100) #[] #[cap]] w fun e w' => e = .returned (.bool (ds.any p)) /\ Below w.heap.size w w' := by
 have H := Lib.hid (indexFunc_deep p cap A n c ds hn w hr hcl)
 clear hr hcl
 go_enter Tryz.func99, Tryz.ntmps99
 go_wp2_with fail
 refine H.out.mono ?_
 rintro e w1 ⟨r, rfl, hi, hb1⟩
 have Hi := Lib.hid (idxE_any hi)
 clear hi
 go_wp2
 go_ret
 exact ⟨ret_bool (by first | exact Hi.out | simpa using Hi.out), hb1⟩

theorem deep_clo (e : EntD) (B : Nat) (a : Int) (w : World) (hB : w.cell? ⟨B, 0, none⟩ = some (.int .i64 a)) :
  Calls Tryz.prog 100 #[.agg #[.int .i64 e.h, .int .i64 e.i, .string e.s, .int .i64 e.d], .pointer (some ⟨B, 0, none⟩)] w fun r w' => r = .returned (.bool (e.d == a)) /\ Below w.heap.size w w' := by
 obtain ⟨eh, ei, es, ed⟩ := e
 have hlt := World.block_lt_of_cell? _ _ hB
 simp only at hlt
 go_enter Tryz.func100, Tryz.ntmps100
 go_wp2
 go_ret
 exact ⟨rfl, belA (bel0 w) _⟩

theorem deep_one (v : Value) (V : VolD) (w : World) (h : IsVol w v V) :
  Calls Tryz.prog 59 #[v, .int .i64 1] w fun e w' => e = .returned (.int .i64 0) /\ Below w.heap.size w w' := by
 obtain ⟨A, c, rfl, _⟩ := h
 go_enter Tryz.func59, Tryz.ntmps59
 go_wp2
 go_ret
 exact ⟨rfl, belA (belA (bel0 w) _) _⟩

theorem deep_gen (v : Value) (V : VolD) (hn : V.xs.length <= 10000000) (hz : ∀ x ∈ V.xs, x.es.length <= 10000000) (T : Int -> Int) (hT : ∀ i, 0 <= T i /\ T i <= 15) (a : Int) (ha : a ≠ 1) (w : World) (h : IsVol w v V)
  (hcall : ∀ x ∈ V.xs, hasE a x.es = true -> ∀ W, IsVol W v V -> Calls Tryz.prog 59 #[v, .int .i64 x.id] W fun e w' => e = .returned (.int .i64 (T x.id)) /\ Below W.heap.size W w') :
  Calls Tryz.prog 59 #[v, .int .i64 a] w fun e w' => e = .returned (.int .i64 (deepI V.xs T a V.xs.length)) /\ Below w.heap.size w w' := by
 have hv := Lib.hid h
 have Hcall := Lib.hid hcall
 have Hz := Lib.hid hz
 have HTb := Lib.hid hT
 have ha1 : (a == 1) = false := by simpa using ha
 obtain ⟨A, c, rfl, h⟩ := h
 obtain ⟨nx, xs⟩ := V
 simp only at h hn Hcall Hz ⊢
 have H := Lib.hid h
 clear h hcall hz hT ha
 obtain ⟨n, hn'⟩ : ∃ n, xs.length = n := ⟨_, rfl⟩
 have HL := Lib.hid hn'
 simp only [hn'] at H hn hv Hcall ⊢
 clear hn'
 have hmf : ∀ (fn : Fn) (first cap : Array Value) (w : World), (Instr.makeFunc fn first cap).run Tryz.prog w = .ok (.func fn first cap) w := fun _ _ _ _ => rfl
 obtain ⟨W1, hW1⟩ : ∃ W1, (w.alloc (.cells #[.int .i64 nx, .slice A n c] 26)).alloc (.cells #[.int .i64 a] 3) = W1 := ⟨_, rfl⟩
 have B1 : Below w.heap.size w W1 := by rw [<- hW1]; exact belA (belA (bel0 w) _) _
 have hV : Blk W1 w.heap.size 26 #[.int .i64 nx, .slice A n c] := by rw [<- hW1]; exact (Blk.new' _ _ _ _ rfl).alloc _
 have hA : Blk W1 (w.heap.size + 1) 3 #[.int .i64 a] := by rw [<- hW1]; exact Blk.new' _ _ _ _ (by simp)
 have HW1 := Lib.hid hW1
 have V0 := Lib.hid (hV.get 0 rfl)
 have V1 := Lib.hid (hV.get 1 rfl)
 have A0 := Lib.hid (hA.get 0 rfl)
 have H1 := Lib.hid ((H.out.below B1).more B1.size)
 clear hW1 hV hA
 go_enter Tryz.func59, Tryz.ntmps59
 go_wp2
 rw [HW1.out]
 go_loopw [5, 13] (fun m i wr => ∃ (k : Nat) (q : Int), k <= n /\ i = .int .i64 k /\ m = .int .i64 q /\ Hid (q = deepI xs T a k) /\ Below W1.heap.size W1 wr)
  (fun _ i _ => n - (intOf i).toNat)
 case atStart => exact ⟨0, 16, by omega, rfl, rfl, rfl, bel0 W1⟩
 case round =>
  obtain ⟨k, q, hk, rfl, rfl, hq, hbel⟩ := hrel
  have hqb := deepI_bd (xs := xs) (a := a) HTb.out k
  rw [<- hq.out] at hqb
  obtain ⟨hqb0, hqb1⟩ := hqb
  by_cases hlt : k < n
  ·obtain ⟨hkx, b, o, A', c', rfl, hadb, z0, z1, z2, z3, z4, hrow⟩ := (H1.out.below hbel).at_ hlt
   have q0 : (0 : Int) <= ↑k := by omega
   have q1 : (↑k : Int) < ↑n := by omega
   have Hs := Lib.hid (deepI_succ (T := T) (a := a) hkx)
   have hzk := Hz.out _ (List.getElem_mem hkx)
   have hck := Lib.hid (Hcall.out _ (List.getElem_mem hkx))
   have htb := HTb.out xs[k].id
   obtain ⟨x, hx⟩ : ∃ x, xs[k] = x := ⟨_, rfl⟩
   rw [hx] at z0 z1 z2 z3 z4 hrow Hs hzk hck htb
   clear hx
   obtain ⟨xi, xk, xl, xt, es⟩ := x
   simp only at z0 z1 z2 z3 z4 hrow Hs hzk hck htb
   obtain ⟨W2, hW2⟩ : ∃ W2, wr.alloc (.cells #[.int .i64 xi, .int .i64 xk, .int .i64 xl, .string xt, .slice A' es.length c'] 36) = W2 := ⟨_, rfl⟩
   have b2 : Below W1.heap.size W1 W2 := by rw [<- hW2]; exact hbel.alloc hbel.size _
   have hE : Blk W2 wr.heap.size 36 #[.int .i64 xi, .int .i64 xk, .int .i64 xl, .string xt, .slice A' es.length c'] := by rw [<- hW2]; exact Blk.new' _ _ _ _ rfl
   have hb2 : Below wr.heap.size wr W2 := by rw [<- hW2]; exact belA (bel0 wr) _
   have Hrow2 := Lib.hid (((hrow.more hbel.size).below hb2).more hb2.size)
   have HW2 := Lib.hid hW2
   clear hW2 hrow
   have hclo := fun W (hW : Below W2.heap.size W2 W) => fun e (_ : e ∈ es) => deep_clo e (w.heap.size + 1) a W (kp_ (b2.trans (hW.mono b2.size)) A0.out)
   have Hcf := Lib.hid (containsFunc_deep (fun e => e.d == a) (.pointer (some ⟨w.heap.size + 1, 0, none⟩)) A' es.length c' es (by omega) W2 Hrow2.out hclo)
   clear hclo
   go_wp2_with fail
   rw [HW2.out]
   refine Hcf.out.mono ?_
   rintro e w3 ⟨rfl, hb3⟩
   have b3 := b2.trans (hb3.mono b2.size)
   have v0 := kp_ b3 V0.out
   have v1 := kp_ b3 V1.out
   have e0 := kp_ hb3 (hE.get 0 rfl)
   clear z0 z1 z2 z3 z4 hE
   rcases hh : es.any (fun e => e.d == a) with _ | _
   ·have Hs2 := Lib.hid (show deepI xs T a (k + 1) = q by rw [Hs.out, hq.out]; unfold hasE; rw [hh]; simp)
    clear hh v0 v1 e0
    go_wp2
    go_roundw
    case rel => exact ⟨k + 1, q, by omega, by go_num, rfl, Hs2.out.symm, b3⟩
    case measure => simp [intOf]; omega
   ·have Hs2 := Lib.hid (show deepI xs T a (k + 1) = min q (1 + T xi) by rw [Hs.out, hq.out]; unfold hasE; rw [hh]; simp)
    have hcl := Lib.hid (hck.out (by unfold hasE; exact hh) w3 (hv.out.next (belN B1 b3)))
    obtain ⟨t, ht⟩ : ∃ t, T xi = t := ⟨_, rfl⟩
    rw [ht] at Hs2 hcl htb
    clear hh ht
    go_wp2_with fail
    refine hcl.out.mono ?_
    rintro e w4 ⟨rfl, hb4⟩
    clear v0 v1 e0
    by_cases hm : 1 + t < q
    ·have hmn : min q (1 + t) = 1 + t := by omega
     go_wp2
     go_roundw
     case rel => exact ⟨k + 1, 1 + t, by omega, by go_num, by first | rfl | rw [hmn] | (rw [Int.min_def]; simp; omega), by rw [Hs2.out, hmn]; rfl, b3.trans (hb4.mono b3.size)⟩
     case measure => simp [intOf]; omega
    ·have hmn : min q (1 + t) = q := by omega
     go_wp2
     go_roundw
     case rel => exact ⟨k + 1, q, by omega, by go_num, by first | rfl | rw [hmn] | (rw [Int.min_def]; simp; omega), by rw [Hs2.out, hmn]; rfl, b3.trans (hb4.mono b3.size)⟩
     case measure => simp [intOf]; omega
  ·obtain rfl : k = n := by omega
   go_wp2
   go_ret
   exact ⟨ret_int hq.out, belN B1 hbel⟩

theorem deep_dir (v : Value) (V : VolD) (hn : V.xs.length <= 10000000) (hz : ∀ x ∈ V.xs, x.es.length <= 10000000) (hp : VolP V.nx V.xs) : ∀ (n : Nat) (a : Int), IsDirI V.xs a -> dpt V.xs a = n -> ∀ (w : World), IsVol w v V ->
  Calls Tryz.prog 59 #[v, .int .i64 a] w fun e w' => e = .returned (.int .i64 (n : Int)) /\ Below w.heap.size w w' := by
 intro n
 induction n with
 | zero =>
  intro a hd h0 w h
  by_cases ha : a = 1
  ·subst ha; exact deep_one v V w h
  ·obtain ⟨b, _, h1, _⟩ := up_one hp ha hd
   omega
 | succ n ih =>
  intro a hd h0 w h
  by_cases ha : a = 1
  ·subst ha; rw [dpt_one hp] at h0; omega
  ·obtain ⟨b, hb, h1, hf, hall⟩ := up_one hp ha hd
   have hs := dpt_short hp hb
   refine (deep_gen v V hn hz (fun _ => (n : Int)) (fun _ => ⟨by omega, by omega⟩) a ha w h fun x hx hh W hW => ?_).mono fun e w' ⟨he, hb'⟩ => ⟨?_, hb'⟩
   ·rw [hall x hx hh]
    exact ih b hb (by omega) W hW
   ·rw [he, deepI_same (d := (n : Int)) ⟨by omega, by omega⟩ (fun _ _ _ => rfl) _ hf]
    congr 2; omega
theorem deep_any (v : Value) (V : VolD) (hn : V.xs.length <= 10000000) (hz : ∀ x ∈ V.xs, x.es.length <= 10000000) (hp : VolP V.nx V.xs) (a : Int) (w : World) (h : IsVol w v V) :
  Calls Tryz.prog 59 #[v, .int .i64 a] w fun e w' => e = .returned (.int .i64 (if a = 1 then 0 else deepI V.xs (fun i => (min (dpt V.xs i) 15 : Nat)) a V.xs.length)) /\ Below w.heap.size w w' := by
 by_cases ha : a = 1
 ·subst ha; rw [if_pos rfl]; exact deep_one v V w h
 ·rw [if_neg ha]
  refine deep_gen v V hn hz _ (dpt_bd V.xs) a ha w h fun x hx hh W hW => ?_
  have hd := up_is hp hx hh
  have hs := dpt_short hp hd
  rw [show min (dpt V.xs x.id) 15 = dpt V.xs x.id by omega]
  exact deep_dir v V hn hz hp _ x.id hd rfl W hW

theorem deepOf_impl (v : Value) (V : VolD) (sm : szV V <= 1048576) (a : Int) (w : World) (hT : Tab w) (hC : IsVolC w v V) :
  Calls Tryz.prog 19 #[v, .int .i64 a] w fun e w' => e = .returned (.int .i64 (deepP V a)) /\ Below w.heap.size w w' := by
 have Hok := Lib.hid (fun W hT hW => volOk_impl v V sm W hT hW)
 have Hat := Lib.hid (fun W hW => at_impl v V (v_len sm) a W hW)
 have Hd := Lib.hid (fun hp W hW => deep_any v V (v_len sm) (v_rows sm) hp a W hW)
 have hv := Lib.hid hC
 have HT := Lib.hid hT
 have h := hC.is
 obtain ⟨A, c, rfl, h⟩ := h
 obtain ⟨nx, xs⟩ := V
 simp only at Hok Hat Hd ⊢
 clear h hT sm hC
 obtain ⟨n, hn'⟩ : ∃ n, xs.length = n := ⟨_, rfl⟩
 have HL := Lib.hid hn'
 simp only [hn'] at Hok Hat Hd hv ⊢
 clear hn'
 obtain ⟨W1, hW1⟩ : ∃ W1, w.alloc (.cells #[.int .i64 nx, .slice A n c] 26) = W1 := ⟨_, rfl⟩
 have B1 : Below w.heap.size w W1 := by rw [<- hW1]; exact belA (bel0 w) _
 have hV : Blk W1 w.heap.size 26 #[.int .i64 nx, .slice A n c] := by rw [<- hW1]; exact Blk.new' _ _ _ _ rfl
 have HW1 := Lib.hid hW1
 have V0 := Lib.hid (hV.get 0 rfl)
 have V1 := Lib.hid (hV.get 1 rfl)
 clear hW1 hV
 rcases hok : volOkB nx xs with _ | _
 ·have Hf := Lib.hid (show deepP ⟨nx, xs⟩ a = -1 by unfold deepP; simp [hok])
  go_enter Tryz.func19, Tryz.ntmps19
  go_wp2_with fail
  rw [HW1.out]
  refine (Hok.out W1 (HT.out.bl B1) (hv.out.next B1)).mono ?_
  rintro e w2 ⟨rfl, hb2⟩
  rw [hok]
  go_wp2
  go_ret
  exact ⟨ret_int Hf.out.symm, belN B1 hb2⟩
 ·have hp := volOkB_iff.1 hok
  obtain ⟨p, hpl⟩ : ∃ p, plc xs a = p := ⟨_, rfl⟩
  have Hpl := Lib.hid hpl
  simp only [hpl] at Hat
  have Hd2 := Lib.hid (Hd.out hp)
  clear hp hpl
  have Hok2 := Lib.hid hok
  clear hok
  go_enter Tryz.func19, Tryz.ntmps19
  go_wp2_with fail
  rw [HW1.out]
  refine (Hok.out W1 (HT.out.bl B1) (hv.out.next B1)).mono ?_
  rintro e w2 ⟨rfl, hb2⟩
  rw [Hok2.out]
  have v0 := kp_ hb2 V0.out
  have v1 := kp_ hb2 V1.out
  go_wp2_with fail
  refine (Hat.out w2 (hv.out.next (belN B1 hb2)).is).mono ?_
  rintro e w3 ⟨rfl, hb3⟩
  have b3 := hb2.trans (hb3.mono hb2.size)
  clear v0 v1
  by_cases hp0 : p < 0
  ·have Hf := Lib.hid (show deepP ⟨nx, xs⟩ a = -1 by unfold deepP; rw [if_neg]; simp only; rw [Hpl.out]; omega)
   go_wp2
   go_ret
   exact ⟨ret_int Hf.out.symm, belN B1 b3⟩
  ·have Hf := Lib.hid (show deepP ⟨nx, xs⟩ a = (if a = 1 then 0 else deepI xs (fun i => (min (dpt xs i) 15 : Nat)) a n) by
    unfold deepP
    rw [if_pos (show volOkB nx xs = true /\ 0 <= plc xs a from ⟨Hok2.out, by rw [Hpl.out]; omega⟩)]
    simp only; rw [HL.out])
   have v0 := kp_ b3 V0.out
   have v1 := kp_ b3 V1.out
   go_wp2_with fail
   refine (Hd2.out w3 (hv.out.next (belN B1 b3)).is).mono ?_
   rintro e w4 ⟨rfl, hb4⟩
   clear v0 v1
   rw [<- Hf.out]
   go_wp2
   go_ret
   exact ⟨rfl, belN (belN B1 b3) hb4⟩

end Go.Proofs.YtjjniapamdleoaaGreatDoor
