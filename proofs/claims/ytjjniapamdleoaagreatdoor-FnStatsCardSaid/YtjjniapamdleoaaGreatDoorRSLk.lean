/- What a look into a directory of a volume gives, and where names lead to: plain Lean. -/
import Derived.Test.YtjjniapamdleoaaGreatDoorRSL20P
import Derived.Test.YtjjniapamdleoaaGreatDoorRSVolA
import Derived.Test.YtjjniapamdleoaaGreatDoorRSLook
import Derived.Test.YtjjniapamdleoaaGreatDoorRSInoOk
namespace Go.Proofs.YtjjniapamdleoaaGreatDoor
open Go Go.RowKit
set_option maxHeartbeats 8000000
set_option maxRecDepth 100000

theorem mem4_bw {G P : (ByteArray) -> (World) -> Prop} {R : Prop} (use : (∀ (x0 : ByteArray) (x1 : World), P x0 x1 -> G x0 x1) -> R) (key : ∀ (x0 : ByteArray) (x1 : World), P x0 x1 -> G x0 x1) : R := use key
theorem drawDu_any (A : Option Addr) (n cp : Nat) (bs : List UInt8) (hn : n <= 9223372036854775000) (w : World) (hr : Reads w w.heap.size 1 A n (B8 bs)) :
  Calls Tryz.prog 13 #[.slice A n cp] w fun e w' => ∃ (v : Value) (V : VolD) (s : ByteArray), e = .returned (.tuple #[v, .string s]) /\ SmV V /\ 0 < V.xs.length /\ s.size <= 2000 /\ YV w' w.heap.size v V /\ Below w.heap.size w w' := by
 obtain ⟨w1, hW1⟩ : ∃ W, w.alloc (.cells #[.int .i64 0, .slice none 0 0] 26) = W := ⟨_, rfl⟩
 have a1 : Below w.heap.size w w1 := by rw [<- hW1]; exact belA (bel0 w) _
 have kR1 : Blk w1 w.heap.size 26 #[.int .i64 0, .slice none 0 0] := by rw [<- hW1]; exact Blk.new' _ _ _ _ rfl
 have s1 : w.heap.size + 1 <= w1.heap.size := by rw [<- hW1]; simp
 have hr1 := (hr.below a1).more a1.size
 have HW1 := Lib.hid hW1
 have Ho := Lib.hid (fun g m hm W hW => l1Below_any g A n cp bs (by omega) m hm W hW)
 clear hW1 hr
 go_enter Tryz.func13, Tryz.ntmps13
 go_wp2_with fail
 rw [HW1.out]
 clear HW1
 refine (l1New_any A n cp bs (by omega) w1 hr1).mono ?_
 rintro e w2 ⟨g, rfl, hg, C2, hb2⟩
 clear hr1
 have B2 := belN a1 hb2
 have kR2 := kR1.below hb2 kR1.lt
 clear hb2 a1 kR1
 go_wp2_with fail
 refine (l1Size_any A n cp hn 40 w2).mono ?_
 rintro e w3 ⟨m, rfl, hm, rfl⟩
 go_wp2_with fail
 refine (l6Any_any g A n cp bs (by omega) m (by omega) w2 C2).mono ?_
 rintro e w4 ⟨v, V, rfl, sm, hpos, ⟨gy, c, us, rfl, y4⟩, C4, g4⟩
 obtain ⟨nx, xs⟩ := V
 have hg2 := C2.lt
 simp only at y4 ⊢
 have hpos' : 0 < xs.length := hpos
 have Sm := Lib.hid sm
 have B4 := belG B2 g4 (by omega)
 have kR4 := blk_gV kR2 g4 (by omega)
 have gs4 := g4.size
 have s2 : w.heap.size + 1 <= w2.heap.size := by have := kR2.lt; omega
 clear B2 kR2 g4 C2 sm hpos
 obtain ⟨pv, hpv⟩ : ∃ q, w4.heap.size = q := ⟨_, rfl⟩
 obtain ⟨w5, hw5⟩ : ∃ W, w4.alloc (.cells #[.int .i64 nx, .slice (some ⟨gy, 0, none⟩) xs.length c] 26) = W := ⟨_, rfl⟩
 have b5 : Below w4.heap.size w4 w5 := by rw [<- hw5]; exact belA (bel0 w4) _
 have kP5 : Blk w5 pv 26 #[.int .i64 nx, .slice (some ⟨gy, 0, none⟩) xs.length c] := by rw [<- hw5, <- hpv]; exact Blk.new' _ _ _ _ rfl
 have kR5 := kR4.below b5 kR4.lt
 have C5 := C4.below b5
 have B5 := belN B4 b5
 have y5 := y4.below b5
 have hgy := y4.hi
 have hpw : w.heap.size + 1 <= pv /\ w2.heap.size <= pv := by omega
 have Hw5 := Lib.hid hw5
 have Hpv := Lib.hid hpv
 clear hw5 hpv b5 kR4 C4 B4 y4
 go_upto_region 3 with fail
 try rw [Hpv.out]
 rw [Hw5.out]
 clear Hw5 Hpv
 refine wp_region_held_drew (S := fun w' => w'.cell? ⟨pv, 0, none⟩ = some (.int .i64 nx) /\ w'.cell? ⟨pv, 1, none⟩ = some (.slice (some ⟨gy, 0, none⟩) xs.length c)) (by kernel_rfl) (by exact ⟨kP5.get 0 rfl, kP5.get 1 rfl⟩) (fun hHeld => ?_)
 clear hHeld
 refine foldH ?_
 intro r hr0
 have bw : w5.grownBy r (some g) := by rw [hr0]; exact gb_below (grown_refl _ _) (bel0 w5).drew
 have kP : Blk r pv 26 #[.int .i64 nx, .slice (some ⟨gy, 0, none⟩) xs.length c] := by rw [hr0]; exact kP5.drew
 have kR : Blk r w.heap.size 26 #[.int .i64 0, .slice none 0 0] := by rw [hr0]; exact kR5.drew
 have pC : Curs r g A n cp bs := by rw [hr0]; exact (C5.below (bel0 w5).drew)
 have pY : YR r w2.heap.size gy c xs us := by rw [hr0]; exact (y5.below (bel0 w5).drew)
 clear hr0
 apply mem4_bw (P := fun s q => w5.grownBy q (some g) /\ Blk q pv 26 #[.int .i64 nx, .slice (some ⟨gy, 0, none⟩) xs.length c] /\ Blk q w.heap.size 26 #[.int .i64 0, .slice none 0 0] /\ Curs q g A n cp bs /\ YR q w2.heap.size gy c xs us /\ s.size <= 2000)
 case use =>
  intro key_ld_3
  refine tkW_ 0 ?_ (hS := by exact ⟨kP.get 0 rfl, kP.get 1 rfl⟩)
  refine tkW_ 1 ?_ (hS := by exact ⟨kP.get 0 rfl, kP.get 1 rfl⟩)
  refine tkW_ 2 ?_ (hS := by exact ⟨kP.get 0 rfl, kP.get 1 rfl⟩)
  refine rd1_ 3 (fun K hK => ?br40004)
  case br40004 =>
   go_simp
   go_at_call 46
   refine (l20Path_any g A n cp bs (by omega) w2.heap.size (by omega) _ ⟨nx, xs⟩ Sm.out hpos' _ ⟨gy, c, us, rfl, pY⟩ pC).mono ?_
   rintro e q ⟨s, rfl, hs, hC, hg⟩
   have bw2 := bw.trans hg
   have kP2 := blk_gV kP hg (by omega)
   have kR2 := blk_gV kR hg (by omega)
   have pY2 : YR q w2.heap.size gy c xs us := (YR.grownC pY hg (by omega))
   have pC2 := hC
   have hs2 : s.size <= 2000 := hs
   refine hK.out _ _ (by exact ⟨kP2.get 0 rfl, kP2.get 1 rfl⟩) (fun _ => ?_)
   clear hK K
   try simp only [Act.put, pT_, pZ_, pS_]
   exact key_ld_3 s q ⟨bw2, kP2, kR2, pC2, pY2, hs2⟩
 case key =>
  rintro s r ⟨bw, kP, kR, pC, pY, hs2⟩
  try dsimp only
  refine rd1_ 4 (fun K hK => ?br40005)
  case br40005 =>
   have kR9 := (kR.put 0 (.int .i64 nx) #[.int .i64 nx, .slice none 0 0] rfl).put 1 (.slice (some ⟨gy, 0, none⟩) xs.length c) #[.int .i64 nx, .slice (some ⟨gy, 0, none⟩) xs.length c] rfl
   have kP9 := (kP.far (p := ⟨w.heap.size, 0, none⟩) (show pv ≠ w.heap.size by omega) (.int .i64 nx)).far (p := ⟨w.heap.size, 1, none⟩) (show pv ≠ w.heap.size by omega) (.slice (some ⟨gy, 0, none⟩) xs.length c)
   have y9 := (pY.farV kR 0 (.int .i64 nx)).farV (kR.put 0 (.int .i64 nx) #[.int .i64 nx, .slice none 0 0] rfl) 1 (.slice (some ⟨gy, 0, none⟩) xs.length c)
   have B9 := belC (belC (belG B5 bw (by omega)) w.heap.size 0 (Nat.le_refl _) (.int .i64 nx)) w.heap.size 1 (Nat.le_refl _) (.slice (some ⟨gy, 0, none⟩) xs.length c)
   obtain ⟨w9, hw9⟩ : ∃ W, (r.setCell ⟨w.heap.size, 0, none⟩ (.int .i64 nx)).setCell ⟨w.heap.size, 1, none⟩ (.slice (some ⟨gy, 0, none⟩) xs.length c) = W := ⟨_, rfl⟩
   rw [hw9] at kR9 kP9 y9 B9
   obtain ⟨x_0, x_1⟩ := kR.g2
   obtain ⟨xf0, xf1⟩ := kR.f2
   have xl := kR.lt
   go_simp
   refine hK.out _ _ (by exact ⟨kP9.get 0 rfl, kP9.get 1 rfl⟩) (fun _ => ?_)
   clear hK K
   try simp only [Act.put, pT_, pZ_, pS_]
   try rw [hw9]
   refine tkW_ 5 ?_ (hS := by exact ⟨kP9.get 0 rfl, kP9.get 1 rfl⟩)
   refine wpAnyH_done (by kernel_rfl) ?_ _
   clear hw9 x_0 x_1 xf0 xf1 xl kR kP pY pC bw
   obtain ⟨r_0, r_1⟩ := kR9.g2
   go_wp2
   refine bodyPost_ret (v := .tuple #[.agg #[.int .i64 nx, .slice (some ⟨gy, 0, none⟩) xs.length c], .string s]) (by simp [results, Tryz.results13, go_sem, r_0, r_1]) rfl ⟨_, ⟨nx, xs⟩, s, rfl, Sm.out, hpos', hs2, ⟨gy, c, us, rfl, y9.more (by omega)⟩, B9⟩

/-- What a call gives: a code, an id, a name, a text. -/
structure LkD where
 code : Int
 id : Int
 s : ByteArray
 d : ByteArray
def LkD.val (r : LkD) : Value := .agg #[.int .i64 r.code, .int .i64 r.id, .string r.s, .string r.d]
def LkD.bad (c : Int) : LkD := ⟨c, 0, ⟨#[]⟩, ⟨#[]⟩⟩
/-- A look for a name in the directory of an id. -/
noncomputable def lkP (xs : List InoD) (a : Int) (s : ByteArray) : LkD :=
 if plc xs a < 0 then .bad 2
 else match xs[(plc xs a).toNat]? with
  | none => .bad 2
  | some x => if x.kd = 2 then (match x.es.find? (fun e => alikeB e.s s) with
    | none => .bad 2
    | some e => match xs[(plc xs e.d).toNat]? with
     | none => .bad 2
     | some y => ⟨0, y.id, e.s, y.s⟩) else .bad 4
theorem lk_none {xs : List InoD} {a : Int} {s : ByteArray} (h : plc xs a = -1) : lkP xs a s = .bad 2 := by unfold lkP; rw [if_pos (by omega)]
theorem lk_file {xs : List InoD} {a : Int} {s : ByteArray} {k : Nat} (hk : k < xs.length) (h : plc xs a = (k : Int)) (hd : xs[k].kd ≠ 2) : lkP xs a s = .bad 4 := by
 unfold lkP; rw [if_neg (by omega), h, Int.toNat_natCast, List.getElem?_eq_getElem hk]; simp only; rw [if_neg hd]
theorem lk_miss {xs : List InoD} {a : Int} {s : ByteArray} {k : Nat} (hk : k < xs.length) (h : plc xs a = (k : Int)) (hd : xs[k].kd = 2) (hf : xs[k].es.find? (fun e => alikeB e.s s) = none) : lkP xs a s = .bad 2 := by
 unfold lkP; rw [if_neg (by omega), h, Int.toNat_natCast, List.getElem?_eq_getElem hk]; simp only; rw [if_pos hd, hf]
theorem lk_hit {xs : List InoD} {a : Int} {s : ByteArray} {k j : Nat} {e : EntD} (hk : k < xs.length) (h : plc xs a = (k : Int)) (hd : xs[k].kd = 2) (hf : xs[k].es.find? (fun e => alikeB e.s s) = some e) (hj : j < xs.length) (hp : plc xs e.d = (j : Int)) : lkP xs a s = ⟨0, xs[j].id, e.s, xs[j].s⟩ := by
 unfold lkP; rw [if_neg (by omega), h, Int.toNat_natCast, List.getElem?_eq_getElem hk]; simp only; rw [if_pos hd, hf]; simp only; rw [hp, Int.toNat_natCast, List.getElem?_eq_getElem hj]
/-- All that a look finds, case by case, in a right volume. -/
theorem lk_cases {nx : Int} {xs : List InoD} (hv : VolP nx xs) (a : Int) (s : ByteArray) :
  (plc xs a = -1 /\ lkP xs a s = .bad 2) ∨ ∃ (k : Nat) (hk : k < xs.length), plc xs a = (k : Int) /\ xs[k].id = a /\
   ((xs[k].kd ≠ 2 /\ lkP xs a s = .bad 4) ∨ (xs[k].kd = 2 /\ dirOkB xs[k].es = true /\
    ((xs[k].es.find? (fun e => alikeB e.s s) = none /\ lkP xs a s = .bad 2) ∨ ∃ (i : Nat) (hi : i < xs[k].es.length) (j : Nat) (hj : j < xs.length), xs[k].es.find? (fun e => alikeB e.s s) = some xs[k].es[i] /\ plc xs xs[k].es[i].d = (j : Int) /\ xs[j].id = xs[k].es[i].d /\ lkP xs a s = ⟨0, xs[j].id, xs[k].es[i].s, xs[j].s⟩))) := by
 rcases plc_cases xs a with ⟨h, _⟩ | ⟨k, hk, h, hid, _⟩
 ·exact .inl ⟨h, lk_none h⟩
 ·refine .inr ⟨k, hk, h, hid, ?_⟩
  by_cases hd : xs[k].kd = 2
  ·refine .inr ⟨hd, hv.dirOk (List.getElem_mem hk) hd, ?_⟩
   rcases hf : xs[k].es.find? (fun e => alikeB e.s s) with _ | e
   ·exact .inl ⟨hf, lk_miss hk h hd hf⟩
   ·obtain ⟨i, hi, rfl⟩ := List.getElem_of_mem (List.mem_of_find?_eq_some hf)
    obtain ⟨_, h1⟩ := hv.not1 (List.getElem_mem hk) (List.getElem_mem hi)
    obtain ⟨j, hj, hp, hjd⟩ := plc_lt h1
    exact .inr ⟨i, hi, j, hj, hf, hp, hjd, lk_hit hk h hd hf hj hp⟩
  ·exact .inl ⟨hd, lk_file hk h hd⟩

section
variable {nx : Int} {xs : List InoD}
theorem es_len (hv : VolP nx xs) {x : InoD} (hx : x ∈ xs) : x.es.length <= 12 := by
 by_cases he : x.es = []
 ·rw [he]; simp
 ·have := hv.dirOk hx (hv.dir hx he)
  exact (dirP_iff.1 (dirOkB_iff.1 this)).1
theorem ino_data (hv : VolP nx xs) {x : InoD} (hx : x ∈ xs) : x.s.size <= 20 /\ (x.kd = 1 ∨ x.kd = 2) := by
 have h := hv.ino hx
 unfold inoOkB at h
 split at h
 ·rename_i h1; simp only [Bool.and_eq_true, decide_eq_true_eq] at h; exact ⟨by omega, .inl h1⟩
 ·simp only [Bool.and_eq_true, decide_eq_true_eq] at h; exact ⟨by omega, .inr h.1.1.1.1.1⟩
theorem plc_mem (hv : VolP nx xs) {x : InoD} (hx : x ∈ xs) : xs[(plc xs x.id).toNat]? = some x := by
 obtain ⟨k, hk, rfl⟩ := List.getElem_of_mem hx
 rw [plc_own hv.grow hk, Int.toNat_natCast, List.getElem?_eq_getElem hk]
end

/-- Where names lead to, and the code. -/
noncomputable def wkP (xs : List InoD) (a : Int) : List ByteArray -> Int × Int
 | [] => (a, 0)
 | s :: l => if (lkP xs a s).code = 0 then wkP xs (lkP xs a s).id l else (0, (lkP xs a s).code)
theorem wk_step {xs : List InoD} {a : Int} {l : List ByteArray} {k : Nat} (hk : k < l.length) (h : (lkP xs a l[k]).code = 0) : wkP xs a (l.drop k) = wkP xs (lkP xs a l[k]).id (l.drop (k + 1)) := by
 rw [List.drop_eq_getElem_cons hk, wkP, if_pos h]
theorem wk_stop {xs : List InoD} {a : Int} {l : List ByteArray} {k : Nat} (hk : k < l.length) (h : (lkP xs a l[k]).code ≠ 0) : wkP xs a (l.drop k) = (0, (lkP xs a l[k]).code) := by
 rw [List.drop_eq_getElem_cons hk, wkP, if_neg h]
theorem wk_end {xs : List InoD} {a : Int} {l : List ByteArray} {k : Nat} (hk : l.length <= k) : wkP xs a (l.drop k) = (a, 0) := by rw [List.drop_eq_nil_of_le hk]; rfl
/-- The id that a look finds is the id of an inode. -/
theorem lk_id {nx : Int} {xs : List InoD} (hv : VolP nx xs) {a : Int} {s : ByteArray} (h : (lkP xs a s).code = 0) : 0 <= plc xs (lkP xs a s).id := by
 rcases lk_cases hv a s with ⟨_, h1⟩ | ⟨k, hk, h0, _, ⟨_, h1⟩ | ⟨_, _, ⟨_, h1⟩ | ⟨i, hi, j, hj, _, h2, h3, h1⟩⟩⟩
 ·rw [h1] at h; exact absurd h (by simp [LkD.bad])
 ·rw [h1] at h; exact absurd h (by simp [LkD.bad])
 ·rw [h1] at h; exact absurd h (by simp [LkD.bad])
 ·rw [h1]; simp only; rw [h3, h2]; omega
theorem wk_id {nx : Int} {xs : List InoD} (hv : VolP nx xs) : ∀ (l : List ByteArray) (a : Int), 0 <= plc xs a -> (wkP xs a l).2 = 0 -> 0 <= plc xs (wkP xs a l).1
 | [], a, h, _ => h
 | s :: l, a, _, h => by
  unfold wkP at h ⊢
  split at h
  ·rename_i h0; rw [if_pos h0]; exact wk_id hv l _ (lk_id hv h0) h
  ·rename_i h0; exact absurd h h0
/-- What Walk gives. -/
noncomputable def walkP (V : VolD) (p : List ByteArray × Bool) : Int × Int := if p.2 = true /\ volOkB V.nx V.xs = true then wkP V.xs 1 p.1 else (0, 1)
theorem walk_bad {V : VolD} {p : List ByteArray × Bool} (h : p.2 = false ∨ volOkB V.nx V.xs = false) : walkP V p = (0, 1) := by
 unfold walkP; rw [if_neg]; rintro ⟨h1, h2⟩; rcases h with h | h
 ·rw [h] at h1; cases h1
 ·rw [h] at h2; cases h2
theorem walk_ok {V : VolD} {p : List ByteArray × Bool} (h1 : p.2 = true) (h2 : volOkB V.nx V.xs = true) : walkP V p = wkP V.xs 1 p.1 := by unfold walkP; rw [if_pos ⟨h1, h2⟩]
theorem vol_at {w : World} {x : Int} {A : Option Addr} {n c : Nat} {V : VolD} (h : IsVolC w (.agg #[.int .i64 x, .slice A n c]) V) : x = V.nx /\ n = V.xs.length /\ VAt w w.heap.size A n V.xs /\ n <= c := by
 obtain ⟨A', c', he, hv, hc⟩ := h
 simp at he
 obtain ⟨h1, h2, h3, h4⟩ := he
 subst h2 h3 h4
 exact ⟨h1, rfl, hv, hc⟩

end Go.Proofs.YtjjniapamdleoaaGreatDoor
