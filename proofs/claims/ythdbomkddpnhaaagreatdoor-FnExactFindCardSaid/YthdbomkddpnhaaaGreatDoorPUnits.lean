/- Units of signs: plain, their rows in memory, and the walks of both packages. -/
import Derived.Test.YthdbomkddpnhaaaGreatDoorPApart
import Derived.Test.YthdbomkddpnhaaaGreatDoorPVolH
namespace Go.Proofs.YthdbomkddpnhaaaGreatDoor
open Go Go.RowKit

/-- One sign more: a unit of its own, or a mark of the last one. -/
def unS (st : List (List Int)) (c : Int) : List (List Int) := if st = [] ∨ cls c = 0 then st ++ [[c]] else st.dropLast ++ [st.getLastD [] ++ [c]]
def unitsP (l : List Int) : List (List Int) := l.foldl unS []
theorem unS_new {st : List (List Int)} {c : Int} (h : st = [] ∨ cls c = 0) : unS st c = st ++ [[c]] := by unfold unS; rw [if_pos h]
theorem unS_old {st : List (List Int)} {l : List Int} {c : Int} (h : cls c ≠ 0) : unS (st ++ [l]) c = st ++ [l ++ [c]] := by
 unfold unS; rw [if_neg (by simp [h])]; simp
theorem units_take {l : List Int} {k : Nat} (hk : k < l.length) : unitsP (l.take (k + 1)) = unS (unitsP (l.take k)) l[k] := by
 unfold unitsP; rw [List.take_succ_eq_append_getElem hk, List.foldl_append]; rfl
theorem unS_ne (st : List (List Int)) (c : Int) : unS st c ≠ [] := by unfold unS; split <;> simp
theorem units_ne {l : List Int} {k : Nat} (hk : k < l.length) : unitsP (l.take (k + 1)) ≠ [] := by rw [units_take hk]; exact unS_ne _ _
theorem units_len : ∀ (l : List Int), (unitsP l).length ≤ l.length := by
 intro l
 have : ∀ (l : List Int) (st : List (List Int)), (l.foldl unS st).length ≤ st.length + l.length := by
  intro l
  induction l with
  | nil => intro st; simp
  | cons c l ih =>
   intro st
   have h := ih (unS st c)
   have h2 : (unS st c).length ≤ st.length + 1 := by
    unfold unS; split
    ·simp
    ·simp
   simp only [List.foldl_cons, List.length_cons]; omega
 simpa [unitsP] using this l []
theorem units_each {l : List Int} : ∀ u ∈ unitsP l, u.length ≤ l.length := by
 have : ∀ (l : List Int) (st : List (List Int)) (n : Nat), (∀ u ∈ st, u.length ≤ n) → ∀ u ∈ l.foldl unS st, u.length ≤ n + l.length := by
  intro l
  induction l with
  | nil => intro st n h u hu; simpa using h u hu
  | cons c l ih =>
   intro st n h u hu
   have h2 := ih (unS st c) (n + 1) ?_ u hu
   ·simp only [List.length_cons]; omega
   ·intro x hx
    unfold unS at hx
    split at hx
    ·rcases List.mem_append.1 hx with h1 | h1
     ·have := h x h1; omega
     ·rw [List.mem_singleton.1 h1]; simp
    ·rename_i hne
     have hne' : st ≠ [] := fun e => hne (.inl e)
     rcases List.mem_append.1 hx with h1 | h1
     ·have := h x (List.dropLast_subset _ h1); omega
     ·rw [List.mem_singleton.1 h1, List.length_append]
      have : (st.getLastD []).length ≤ n := by
       rw [List.getLastD_eq_getLast?, List.getLast?_eq_some_getLast hne']
       exact h _ (List.getLast_mem hne')
      simpa using this
 intro u hu
 simpa using this l [] 0 (by simp) u hu
/-- Rows of numbers behind a slice. -/
def LAt (w : World) (B : Nat) (A : Option Addr) (n : Nat) (ls : List (List Int)) : Prop :=
 ∃ vs, Reads w B 1 A n vs ∧ ls.length = n ∧ ∀ (i : Nat) (hi : i < ls.length), ∃ A' c, vs[i]? = some (.slice A' ls[i].length c) ∧ Reads w B 1 A' ls[i].length (II ls[i])
section
variable {w w' : World} {B B' n : Nat} {A : Option Addr} {ls : List (List Int)}
theorem LAt.len (h : LAt w B A n ls) : ls.length = n := by obtain ⟨_, _, h, _⟩ := h; exact h
theorem LAt.below (h : LAt w B A n ls) (hb : Below B w w') : LAt w' B A n ls := by
 obtain ⟨vs, h1, h2, h3⟩ := h
 refine ⟨vs, h1.below hb, h2, fun i hi => ?_⟩
 obtain ⟨A', c, h4, h5⟩ := h3 i hi
 exact ⟨A', c, h4, h5.below hb⟩
theorem LAt.more (h : LAt w B A n ls) (hB : B ≤ B') : LAt w B' A n ls := by
 obtain ⟨vs, h1, h2, h3⟩ := h
 refine ⟨vs, h1.more hB, h2, fun i hi => ?_⟩
 obtain ⟨A', c, h4, h5⟩ := h3 i hi
 exact ⟨A', c, h4, h5.more hB⟩
theorem LAt.next (h : LAt w w.heap.size A n ls) (hb : Below w.heap.size w w') : LAt w' w'.heap.size A n ls := (h.below hb).more hb.size
theorem LAt.at_ (h : LAt w B A n ls) {k : Nat} (hk : k < n) :
  ∃ (hk' : k < ls.length) (b o : Nat) (A' : Option Addr) (c : Nat), A = some ⟨b, o, none⟩ ∧ b < B ∧ w.cell? ⟨b, o + k, none⟩ = some (.slice A' ls[k].length c) ∧ Reads w B 1 A' ls[k].length (II ls[k]) := by
 obtain ⟨vs, h1, h2, h3⟩ := h
 have hk' : k < ls.length := by omega
 obtain ⟨A', c, h4, h5⟩ := h3 k hk'
 obtain ⟨ad, u, rfl, hb, hu, hc⟩ := h1.at_ hk
 obtain ⟨ad0, u0, e0, _, _, hc0⟩ := h1.at_ (k := 0) (by omega)
 injection e0 with e0
 subst e0
 have ha0 : ad.add 0 = ad := by simp [Addr.add]
 rw [ha0] at hc0
 obtain ⟨b, o, rfl⟩ := flat_addr hc0
 have ha : ∀ j, (Addr.add ⟨b, o, none⟩ j) = ⟨b, o + j, none⟩ := fun j => by unfold Addr.add; split <;> simp_all
 rw [ha] at hc
 rw [h4] at hu
 injection hu with hu
 exact ⟨hk', b, o, A', c, rfl, hb, by rw [hu]; exact hc, h5⟩
end

/-- Rows of numbers of one's own, each in a block of its own. -/
def UOwn (w : World) (lo : Nat) (e : TypeId) (gs : List Nat) (vs : List Value) (ls : List (List Int)) : Prop :=
 gs.length = ls.length ∧ vs.length = ls.length ∧ gs.Nodup ∧ ∀ (i : Nat) (g : Nat) (l : List Int), gs[i]? = some g → ls[i]? = some l → ∃ c, vs[i]? = some (.slice (some ⟨g, 0, none⟩) l.length c) ∧ w.ownsRow lo e 1 (.slice (some ⟨g, 0, none⟩) l.length c) l.length (II l)
section
variable {w w' : World} {lo : Nat} {e : TypeId} {gs : List Nat} {vs : List Value} {ls : List (List Int)}
theorem UOwn.nil_ (w : World) (lo : Nat) (e : TypeId) : UOwn w lo e [] [] [] := ⟨rfl, rfl, List.nodup_nil, fun i g l h => by simp at h⟩
theorem UOwn.lt (h : UOwn w lo e gs vs ls) : ∀ g ∈ gs, lo ≤ g ∧ g < w.heap.size := by
 intro g hg
 obtain ⟨i, hi, rfl⟩ := List.getElem_of_mem hg
 have hl : i < ls.length := by have := h.1; omega
 obtain ⟨c, _, ho⟩ := h.2.2.2 i _ _ (List.getElem?_eq_getElem hi) (List.getElem?_eq_getElem hl)
 exact own_lt ho
theorem UOwn.same (h : UOwn w lo e gs vs ls) (hk : ∀ g ∈ gs, w'.heap[g]? = w.heap[g]?) : UOwn w' lo e gs vs ls := by
 refine ⟨h.1, h.2.1, h.2.2.1, fun i g l hg hl => ?_⟩
 obtain ⟨c, h1, h2⟩ := h.2.2.2 i g l hg hl
 exact ⟨c, h1, own_same h2 (hk g (List.mem_of_getElem? hg))⟩
theorem UOwn.below (h : UOwn w lo e gs vs ls) (hb : Below w.heap.size w w') : UOwn w' lo e gs vs ls := h.same fun g hg => hb.block g (h.lt g hg).2
theorem UOwn.snoc (h : UOwn w lo e gs vs ls) {g c : Nat} {l : List Int} (hg : ∀ x ∈ gs, x ≠ g) (ho : w.ownsRow lo e 1 (.slice (some ⟨g, 0, none⟩) l.length c) l.length (II l)) :
  UOwn w lo e (gs ++ [g]) (vs ++ [.slice (some ⟨g, 0, none⟩) l.length c]) (ls ++ [l]) := by
 obtain ⟨h1, h2, h3, h4⟩ := h
 refine ⟨by simp [h1], by simp [h2], List.nodup_append.2 ⟨h3, by simp, fun a ha b hb => by rw [List.mem_singleton.1 hb]; exact hg a ha⟩, fun i g' l' hg' hl' => ?_⟩
 by_cases hi : i < ls.length
 ·rw [List.getElem?_append_left (by omega)] at hg' hl'
  obtain ⟨c', h5, h6⟩ := h4 i g' l' hg' hl'
  exact ⟨c', by rw [List.getElem?_append_left (by omega)]; exact h5, h6⟩
 ·have hi' : i = ls.length := by
   have := (List.getElem?_eq_some_iff.1 hl').1
   simp at this; omega
  subst hi'
  rw [List.getElem?_append_right (by omega)] at hg' hl'
  simp [h1] at hg' hl'
  subst hg' hl'
  exact ⟨c, by rw [List.getElem?_append_right (by omega)]; simp [h2], ho⟩
theorem UOwn.last {g : Nat} {v : Value} {l : List Int} (h : UOwn w lo e (gs ++ [g]) (vs ++ [v]) (ls ++ [l])) :
  UOwn w lo e gs vs ls ∧ (∀ x ∈ gs, x ≠ g) ∧ ∃ c, v = .slice (some ⟨g, 0, none⟩) l.length c ∧ w.ownsRow lo e 1 (.slice (some ⟨g, 0, none⟩) l.length c) l.length (II l) := by
 obtain ⟨h1, h2, h3, h4⟩ := h
 simp at h1 h2
 have hnd := List.nodup_append.1 h3
 refine ⟨⟨h1, h2, hnd.1, fun i g' l' hg' hl' => ?_⟩, fun x hx => hnd.2.2 x hx g (by simp), ?_⟩
 ·have hi : i < ls.length := (List.getElem?_eq_some_iff.1 hl').1
  obtain ⟨c, h5, h6⟩ := h4 i g' l' (by rw [List.getElem?_append_left (by omega)]; exact hg') (by rw [List.getElem?_append_left (by omega)]; exact hl')
  rw [List.getElem?_append_left (by omega)] at h5
  exact ⟨c, h5, h6⟩
 ·obtain ⟨c, h5, h6⟩ := h4 ls.length g l (by rw [List.getElem?_append_right (by omega)]; simp [h1]) (by rw [List.getElem?_append_right (by omega)]; simp)
  rw [List.getElem?_append_right (by omega)] at h5
  simp [h2] at h5
  exact ⟨c, h5, h6⟩
/-- They are read as rows behind the outer slice. -/
theorem UOwn.at_ (h : UOwn w lo e gs vs ls) {lo' : Nat} {e' : TypeId} {A : Option Addr} {n c : Nat} (hn : ls.length = n) (ho : w.ownsRow lo' e' 1 (.slice A n c) n vs) : LAt w w.heap.size A n ls := by
 refine ⟨vs, Reads.of_own ho, hn, fun i hi => ?_⟩
 obtain ⟨c', h5, h6⟩ := h.2.2.2 i (gs[i]'(by have := h.1; omega)) ls[i] (List.getElem?_eq_getElem _) (List.getElem?_eq_getElem hi)
 exact ⟨_, c', h5, Reads.of_own h6⟩
end

theorem Tryz.el_ints : ElemOk Tryz.prog 199 121 (.slice none 0 0) 1 24 := ⟨Tryz.underlying199, by kernel_rfl, rfl, by omega⟩

set_option maxRecDepth 100000 in
set_option maxHeartbeats 4000000 in
theorem units_impl (A : Option Addr) (n c : Nat) (xs : List Int) (hn : n ≤ 10000000) (w : World) (hr : Reads w w.heap.size 1 A n (II xs)) :
  Calls Tryz.prog 252 #[.slice A n c] w fun e w' => ∃ A' m c', e = .returned (.slice A' m c') ∧ LAt w' w'.heap.size A' m (unitsP xs) ∧ Below w.heap.size w w' := by
 have hl : xs.length = n := by have := hr.1; rw [II_length] at this; omega
 have Hr := Lib.hid hr
 clear hr
 go_enter Tryz.func252, Tryz.ntmps252
 go_wp2
 go_loopw [3, 9] (fun s3 i wr => ∃ (k : Nat) (ls : List (List Int)) (gs : List Nat) (vs : List Value) (vo : Value), vo = s3 ∧ k ≤ n ∧ ls.length ≤ k ∧ i = .int .i64 k ∧ Hid (ls = unitsP (xs.take k)) ∧ wr.ownsRow w.heap.size 121 1 s3 ls.length vs ∧ Hid (UOwn wr w.heap.size 3 gs vs ls) ∧ Below w.heap.size w wr)
  (fun _ i _ => n - (intOf i).toNat)
 case atStart => exact ⟨0, [], [], [], _, rfl, by omega, by simp, rfl, by rw [List.take_zero]; rfl, World.ownsRow_lit w #[] 0 (Nat.le_refl _) (by unfold maxLen; omega) rfl, UOwn.nil_ _ _ _, belA (bel0 w) _⟩
 case round =>
  obtain ⟨k, ls, gs, vs, vo, hvo, hk, hlk, rfl, hls, hown, hU, hbel⟩ := hrel
  subst hvo
  have hsz := hbel.size
  by_cases hlt : k < n
  ·obtain ⟨hkx, ad, rfl, hadb, z0⟩ := reads_at (Hr.out.below hbel) hlt
   have q0 : (0 : Int) ≤ ↑k := by omega
   have q1 : (↑k : Int) < ↑n := by omega
   have Hst := Lib.hid (units_take hkx)
   have Hne := Lib.hid (fun h0 : 0 < k => show unitsP (xs.take k) ≠ [] from by obtain ⟨j, rfl⟩ : ∃ j, k = j + 1 := ⟨k - 1, by omega⟩; exact units_ne (by omega))
   obtain ⟨x, hx⟩ : ∃ x, xs[k] = x := ⟨_, rfl⟩
   have Hx := Lib.hid hx
   rw [hx] at z0 Hst
   clear hx
   by_cases hnew : k = 0 ∨ cls x = 0
   ·have Hnx := Lib.hid (show unitsP (xs.take (k + 1)) = ls ++ [[x]] by
     rw [Hst.out, hls.out]
     refine unS_new ?_
     rcases hnew with h | h
     ·left; rw [h]; rfl
     ·exact .inr h)
    have rel : ∀ (v1 : Value) (w1 : World), w1.ownsRow w.heap.size 121 1 v1 (ls.length + 1) (vs ++ [.slice (some ⟨wr.heap.size, 0, none⟩) 1 1]) →
      ((wr.alloc (.cells #[.int .i64 x] 3)).alloc (.cells #[.slice (some ⟨wr.heap.size, 0, none⟩) 1 1] 121)).grownBy w1 vo.ownBlock → UOwn w1 w.heap.size 3 (gs ++ [wr.heap.size]) (vs ++ [.slice (some ⟨wr.heap.size, 0, none⟩) 1 1]) (ls ++ [[x]]) := by
     intro v1 w1 own1 hg1
     have hne2 : ∀ g ∈ gs ++ [wr.heap.size], some g ≠ vo.ownBlock := by
      intro g hg
      rcases List.mem_append.1 hg with h1 | h1
      ·obtain ⟨i, hi, rfl⟩ := List.getElem_of_mem h1
       have hl2 := hU.out.1
       obtain ⟨c', _, ho⟩ := hU.out.2.2.2 i _ (ls[i]'(by omega)) (List.getElem?_eq_getElem hi) (List.getElem?_eq_getElem (by omega))
       obtain ⟨_, cur, hc, _⟩ := own_some ho
       have := own_blk_ne hown (g := gs[i]) (t := 3) (cs := cur) hc (by decide)
       exact fun e => this e.symm
      ·rw [List.mem_singleton.1 h1]
       exact fun e => by have := (hown.lt _ e.symm).2; omega
     have hU1 : UOwn w1 w.heap.size 3 gs vs ls := hU.out.same fun g hg => by
      have := (hU.out.lt g hg).2
      rw [hg1.block g (by simp; omega) (hne2 g (by simp [hg])), Below.heap_alloc _ _ g (by simp; omega), Below.heap_alloc _ _ g this]
     refine hU1.snoc (c := 1) (l := [x]) (fun y hy => by have := (hU.out.lt y hy).2; omega) ?_
     have h0 : (wr.alloc (.cells #[.int .i64 x] 3)).ownsRow w.heap.size 3 1 (.slice (some ⟨wr.heap.size, 0, none⟩) 1 1) 1 (II [x]) := ⟨rfl, .inr ⟨wr.heap.size, 1, #[.int .i64 x], rfl, hsz, heap_alloc_new wr _, Nat.le_refl _, by unfold maxLen; omega, rfl, rfl⟩⟩
     exact own_same (own_same h0 (w' := (wr.alloc (.cells #[.int .i64 x] 3)).alloc (.cells #[.slice (some ⟨wr.heap.size, 0, none⟩) 1 1] 121)) (Below.heap_alloc _ _ _ (by simp))) (hg1.block _ (by simp; omega) (hne2 _ (by simp)))
    have Rel := Lib.hid rel
    clear rel
    by_cases hk0 : k = 0
    ·have hk1 : ((k : Int) == 0) = true := by rw [hk0]; rfl
     clear hk0 hnew
     go_wp2_with (at_builtin; go_must (refine wpList_app _ rfl _ _ _ rfl Tryz.el_ints ((hown.alloc _).alloc _) rfl (reads_newG _ (wr.heap.size + 1) (by simp) _ _ _ 1 (by rfl)) rfl (by simp [Value.oneCell']) (max_small (by omega)) (by omega) (by simp; omega) ?_); intro v1 w1 own1 hg1 _ hb1)
     go_roundw
     case rel => exact ⟨k + 1, ls ++ [[x]], gs ++ [wr.heap.size], vs ++ [.slice (some ⟨wr.heap.size, 0, none⟩) 1 1], _, rfl, by omega, by rw [List.length_append]; simp; omega, by go_num, Hnx.out.symm, by rw [List.length_append]; exact own1, Lib.hid (Rel.out _ _ own1 hg1), ((hbel.alloc hsz _).alloc (by simp; omega) _).trans hb1⟩
     case measure => simp [intOf]; omega
    ·have hk1 : ((k : Int) == 0) = false := by simpa using hk0
     have hc0 : (cls x == 0) = true := by simpa using hnew.resolve_left hk0
     clear hk0 hnew
     go_wp2_with (first
      | (go_at_call 301; refine (class_impl _ _).mono ?_; rintro e w' ⟨rfl, rfl⟩)
      | (at_builtin; go_must (refine wpList_app _ rfl _ _ _ rfl Tryz.el_ints ((hown.alloc _).alloc _) rfl (reads_newG _ (wr.heap.size + 1) (by simp) _ _ _ 1 (by rfl)) rfl (by simp [Value.oneCell']) (max_small (by omega)) (by omega) (by simp; omega) ?_); intro v1 w1 own1 hg1 _ hb1))
     go_roundw
     case rel => exact ⟨k + 1, ls ++ [[x]], gs ++ [wr.heap.size], vs ++ [.slice (some ⟨wr.heap.size, 0, none⟩) 1 1], _, rfl, by omega, by rw [List.length_append]; simp; omega, by go_num, Hnx.out.symm, by rw [List.length_append]; exact own1, Lib.hid (Rel.out _ _ own1 hg1), ((hbel.alloc hsz _).alloc (by simp; omega) _).trans hb1⟩
     case measure => simp [intOf]; omega
   ·have hk0 : 0 < k := by rcases Nat.eq_zero_or_pos k with h | h; exact absurd (.inl h) hnew; exact h
    have hcx : cls x ≠ 0 := fun h => hnew (.inr h)
    have hk1 : ((k : Int) == 0) = false := by simp; omega
    have hc0 : (cls x == 0) = false := by simpa using hcx
    have hlne : ls ≠ [] := by rw [hls.out]; exact Hne.out hk0
    obtain ⟨ls0, l, rfl⟩ : ∃ ls0 l, ls = ls0 ++ [l] := ⟨_, _, (List.dropLast_concat_getLast hlne).symm⟩
    have hU' := hU.out
    have hgne : gs ≠ [] := by intro h; have := hU'.1; rw [h] at this; simp at this
    have hvne : vs ≠ [] := by intro h; have := hU'.2.1; rw [h] at this; simp at this
    obtain ⟨gs0, g, rfl⟩ : ∃ gs0 g, gs = gs0 ++ [g] := ⟨_, _, (List.dropLast_concat_getLast hgne).symm⟩
    obtain ⟨vs0, v, rfl⟩ : ∃ vs0 v, vs = vs0 ++ [v] := ⟨_, _, (List.dropLast_concat_getLast hvne).symm⟩
    obtain ⟨hU0, hgs, c, rfl, hol⟩ := hU'.last
    have hll : l.length ≤ 10000000 := by
     have h1 := units_each (l := xs.take k) l (by rw [← hls.out]; simp)
     rw [List.length_take] at h1; omega
    have hvl : vs0.length = ls0.length := hU0.2.1
    have Hnx := Lib.hid (show unitsP (xs.take (k + 1)) = ls0 ++ [l ++ [x]] by rw [Hst.out, ← hls.out]; exact unS_old hcx)
    obtain ⟨G, C, rfl⟩ := own_form1 hown (by simp)
    have hGg : G ≠ g := by
     obtain ⟨_, x0, y0, _⟩ := own_some hown
     obtain ⟨_, x1, y1, _⟩ := own_some hol
     rintro rfl
     rw [y0] at y1
     injection y1 with y1
     injection y1 with _ y1
     exact absurd y1 (by decide)
    have hGs : ∀ y ∈ gs0, y ≠ G := fun y hy => by
     obtain ⟨i, hi, rfl⟩ := List.getElem_of_mem hy
     have hl2 := hU0.1
     obtain ⟨c', _, ho⟩ := hU0.2.2.2 i _ (ls0[i]'(by omega)) (List.getElem?_eq_getElem hi) (List.getElem?_eq_getElem (by omega))
     obtain ⟨_, x0, y0, _⟩ := own_some hown
     obtain ⟨_, x1, y1, _⟩ := own_some ho
     intro e
     rw [e, y0] at y1
     injection y1 with y1
     injection y1 with _ y1
     exact absurd y1 (by decide)
    have hGl := (own_lt hown).2
    have hGb := (own_lt hown).1
    have hgl := (own_lt hol).2
    have post : ∀ w1 : World, (wr.alloc (.cells #[.int .i64 x] 3)).grownBy w1 (some g) → w1.ownsRow w.heap.size 121 1 (.slice (some ⟨G, 0, none⟩) (ls0 ++ [l]).length C) (ls0 ++ [l]).length (vs0 ++ [.slice (some ⟨g, 0, none⟩) l.length c]) := fun w1 hg1 =>
     own_same hown ((hg1.block G (by simp; omega) (by intro e; injection e with e; exact hGg e)).trans (Below.heap_alloc _ _ _ hGl))
    have rel : ∀ (w1 : World) (g' c' : Nat), (wr.alloc (.cells #[.int .i64 x] 3)).grownBy w1 (some g) → (g' = g ∨ g' = wr.heap.size + 1) → w1.ownsRow w.heap.size 3 1 (.slice (some ⟨g', 0, none⟩) (l.length + 1) c') (l.length + 1) (II l ++ [.int .i64 x]) →
      (w1.setCell ⟨G, ls0.length, none⟩ (.slice (some ⟨g', 0, none⟩) (l.length + 1) c')).ownsRow w.heap.size 121 1 (.slice (some ⟨G, 0, none⟩) (ls0 ++ [l]).length C) (ls0 ++ [l ++ [x]]).length (vs0 ++ [.slice (some ⟨g', 0, none⟩) (l.length + 1) c']) ∧
      UOwn (w1.setCell ⟨G, ls0.length, none⟩ (.slice (some ⟨g', 0, none⟩) (l.length + 1) c')) w.heap.size 3 (gs0 ++ [g']) (vs0 ++ [.slice (some ⟨g', 0, none⟩) (l.length + 1) c']) (ls0 ++ [l ++ [x]]) := by
     intro w1 g' c' hg1 hor ho1
     have hg'G : g' ≠ G := by
      obtain ⟨_, x0, y0, _⟩ := own_some (post w1 hg1)
      obtain ⟨_, x1, y1, _⟩ := own_some ho1
      rintro rfl
      rw [y0] at y1
      injection y1 with y1
      injection y1 with _ y1
      exact absurd y1 (by decide)
     constructor
     ·have h2 := own_set (post w1 hg1) ls0.length (.slice (some ⟨g', 0, none⟩) (l.length + 1) c')
      rw [show (vs0 ++ [Value.slice (some ⟨g, 0, none⟩) l.length c]).set ls0.length (.slice (some ⟨g', 0, none⟩) (l.length + 1) c') = vs0 ++ [.slice (some ⟨g', 0, none⟩) (l.length + 1) c'] by rw [← hvl]; simp] at h2
      rw [show (ls0 ++ [l ++ [x]]).length = (ls0 ++ [l]).length by simp]
      exact h2
     ·have h3 : UOwn (w1.setCell ⟨G, ls0.length, none⟩ (.slice (some ⟨g', 0, none⟩) (l.length + 1) c')) w.heap.size 3 gs0 vs0 ls0 := hU0.same fun y hy => by
       have hyl := (hU0.lt y hy).2
       rw [Below.heap_setCell _ _ _ y (by simpa using hGs y hy), hg1.block y (by simp; omega) (by intro e; injection e with e; exact hgs y hy e), Below.heap_alloc _ _ y hyl]
      have h4 := h3.snoc (g := g') (c := c') (l := l ++ [x]) (fun y hy => by
       rcases hor with h | h
       ·rw [h]; exact hgs y hy
       ·have := (hU0.lt y hy).2; omega) (by
       rw [List.length_append]
       exact own_far (by rw [II_append]; exact ho1) hg'G)
      rw [List.length_append] at h4
      exact h4
    have Rel := Lib.hid rel
    have Post := Lib.hid post
    have hNb : (ls0 ++ [l]).length ≤ 10000001 := by omega
    obtain ⟨N, hN⟩ : ∃ N, (ls0 ++ [l]).length = N := ⟨_, rfl⟩
    obtain ⟨m, hm⟩ : ∃ m, ls0.length = m := ⟨_, rfl⟩
    have hNm : N = m + 1 := by rw [← hN, ← hm]; simp
    have e1 : wr.cell? ⟨G, m, none⟩ = some (.slice (some ⟨g, 0, none⟩) l.length c) := by
     have h2 := hown.cellAt m (by rw [hN]; omega)
     rw [h2, ← hm, ← hvl]; simp
    have e2 : ∀ w1 : World, (wr.alloc (.cells #[.int .i64 x] 3)).grownBy w1 (some g) → w1.cell? ⟨G, m, none⟩ = some (.slice (some ⟨g, 0, none⟩) l.length c) := fun w1 hg1 => by
     have h2 := (post w1 hg1).cellAt m (by rw [hN]; omega)
     rw [h2, ← hm, ← hvl]; simp
    have E2 := Lib.hid e2
    have w1' : IntKind.i64.wrap ((N : Int) - 1) = (m : Int) := by rw [IntWalk.i64_in _ (by omega)]; omega
    have q2 : (0 : Int) ≤ ↑m := by omega
    have q3 : (↑m : Int) < ↑N := by omega
    have Hol := Lib.hid hol
    have HN := Lib.hid hN
    have HNm := Lib.hid hNm
    have HM := Lib.hid hm
    rw [hN] at hown hlk hNb ⊢
    rw [hm] at Rel
    simp only [hN] at Rel Post
    clear hnew hcx hU' hU0 hU hgs hGs post rel e2 hN hm hNm hlne hgne hvne hown hol hvl
    go_wp2_with (first
     | (go_at_call 301; refine (class_impl _ _).mono ?_; rintro e w' ⟨rfl, rfl⟩)
     | (at_builtin; go_must (refine wpList_app _ rfl _ _ _ rfl Tryz.el_int (Hol.out.alloc _) rfl (reads_new _ _ _ _ 1 (by rfl)) rfl (by simp [Value.oneCell']) (max_small (by omega)) (by omega) (by simp; omega) ?_); intro v1 w1 own1 hg1 hor hb1; obtain ⟨g', c', rfl⟩ := own_form1 own1 (by omega); have e3 := E2.out w1 hg1; have f3 := own_frozen (Post.out w1 hg1) m; have l3 := (own_lt (Post.out w1 hg1)).2; have Own1 := Lib.hid own1; clear own1))
    have hor' : g' = g ∨ g' = wr.heap.size + 1 := by simpa [Value.ownBlock] using hor
    obtain ⟨r1, r2⟩ := Rel.out w1 g' c' hg1 hor' Own1.out
    have R1 := Lib.hid r1
    have R2 := Lib.hid r2
    clear r1 r2 e3 f3 e1
    go_roundw
    case rel => exact ⟨k + 1, ls0 ++ [l ++ [x]], gs0 ++ [g'], vs0 ++ [.slice (some ⟨g', 0, none⟩) (l.length + 1) c'], _, rfl, by omega, by have := HNm.out; simp [HM.out]; omega, by go_num, Hnx.out.symm, R1.out, R2, belC ((belA hbel _).trans hb1) _ _ hGb _⟩
    case measure => simp [intOf]; omega
  ·have hk' : k = n := by omega
   obtain ⟨Ao, co, rfl, _⟩ := own_vals hown
   have Hown := Lib.hid hown
   clear hown
   go_wp2
   go_ret
   exact ⟨_, _, _, rfl, by have h1 := hU.out.at_ rfl Hown.out; have h2 := hls.out; rw [hk', List.take_of_length_le (by omega)] at h2; rw [← h2]; exact h1, hbel⟩

theorem drop_take_snoc (xs : List Int) (f i : Nat) (hf : f ≤ i) (hi : i < xs.length) : (xs.take (i + 1)).drop f = (xs.take i).drop f ++ [xs[i]] := by
 rw [List.take_succ_eq_append_getElem hi, List.drop_append_of_le_length (by rw [List.length_take]; omega)]
theorem drop_take_one (xs : List Int) (i : Nat) (hi : i < xs.length) : (xs.take (i + 1)).drop i = [xs[i]] := by
 rw [drop_take_snoc xs i i (Nat.le_refl _) hi, List.drop_eq_nil_of_le (by rw [List.length_take]; omega)]; rfl
/-- How far the reference has come. -/
def UnitsTo (xs : List Int) (ls : List (List Int)) (f i : Nat) : Prop := (i ≤ xs.length ∧ f < i ∧ unitsP (xs.take i) = ls ++ [(xs.take i).drop f]) ∨ (i = xs.length + 1 ∧ ls = unitsP xs)
theorem unitsTo_start (xs : List Int) : UnitsTo xs [] 0 1 := by
 rcases xs with _ | ⟨x, xs⟩
 ·exact .inr ⟨rfl, rfl⟩
 ·refine .inl ⟨by simp, by omega, ?_⟩
  simp [unitsP, unS]
theorem unitsTo_end {xs : List Int} {ls : List (List Int)} {f i : Nat} (h : UnitsTo xs ls f i) (hi : i = xs.length) : UnitsTo xs (ls ++ [(xs.take i).drop f]) i (i + 1) := by
 rcases h with ⟨_, _, h⟩ | ⟨h, _⟩
 ·subst hi
  rw [List.take_length] at h ⊢
  exact .inr ⟨rfl, h.symm⟩
 ·omega
theorem unitsTo_cut {xs : List Int} {ls : List (List Int)} {f i : Nat} (h : UnitsTo xs ls f i) (hi : i < xs.length) (hc : cls xs[i] = 0) : UnitsTo xs (ls ++ [(xs.take i).drop f]) i (i + 1) := by
 rcases h with ⟨_, _, h⟩ | ⟨h, _⟩
 ·refine .inl ⟨by omega, by omega, ?_⟩
  rw [units_take hi, unS_new (.inr hc), h, drop_take_one xs i hi]
 ·omega
theorem unitsTo_on {xs : List Int} {ls : List (List Int)} {f i : Nat} (h : UnitsTo xs ls f i) (hi : i < xs.length) (hc : cls xs[i] ≠ 0) : UnitsTo xs ls f (i + 1) := by
 rcases h with ⟨_, hf, h⟩ | ⟨h, _⟩
 ·refine .inl ⟨by omega, by omega, ?_⟩
  rw [units_take hi, h, unS_old hc, drop_take_snoc xs f i (by omega) hi]
 ·omega
theorem unitsTo_f {xs : List Int} {ls : List (List Int)} {f i : Nat} (h : UnitsTo xs ls f i) (hi : i ≤ xs.length) : f < i := by
 rcases h with ⟨_, hf, _⟩ | ⟨h, _⟩
 ·exact hf
 ·omega

theorem UOwn.push {w1 w2 : World} {lo n : Nat} {e e' : TypeId} {gs : List Nat} {vs vs' : List Value} {ls : List (List Int)} {vo : Value} {o : Obj} (hU : UOwn w1 lo e gs vs ls) (ho : w1.ownsRow lo e' 1 vo n vs') (hne : e' ≠ e) (hg : (w1.alloc o).grownBy w2 vo.ownBlock) : UOwn w2 lo e gs vs ls := by
 refine hU.same fun g hgm => ?_
 obtain ⟨i, hi, rfl⟩ := List.getElem_of_mem hgm
 have hl2 := hU.1
 obtain ⟨c', _, hoi⟩ := hU.2.2.2 i _ (ls[i]'(by omega)) (List.getElem?_eq_getElem hi) (List.getElem?_eq_getElem (by omega))
 obtain ⟨_, cur, hc, _⟩ := own_some hoi
 have hlt := (own_lt hoi).2
 have h1 := own_blk_ne ho (g := gs[i]) (t := e) (cs := cur) hc hne
 rw [hg.block _ (by simp; omega) (fun e => h1 e.symm), Below.heap_alloc _ _ _ hlt]
theorem reads_sub {w : World} {B n : Nat} {ad : Addr} {xs : List Int} (h : Reads w B 1 (some ad) n (II xs)) {f k : Nat} (hf : f < k) (hk : k ≤ n) : Reads w B 1 (some (ad.add f)) (k - f) (II ((xs.take k).drop f)) := by
 have hl : xs.length = n := by have := h.1; rw [II_length] at this; omega
 refine ⟨by rw [II_length, List.length_drop, List.length_take]; omega, fun _ => ?_⟩
 obtain ⟨ad', he, hb, hc⟩ := h.2 (by omega)
 injection he with he
 subst he
 refine ⟨_, rfl, by rw [block_of_add]; exact hb, fun j u hu => ?_⟩
 rw [add_of_add]
 refine hc _ u ?_
 unfold II at hu ⊢
 rw [List.getElem?_map, List.getElem?_drop, List.getElem?_take] at hu
 rw [List.getElem?_map]
 split at hu
 ·exact hu
 ·cases hu

theorem units_push {w W w1 w2 : World} {gs : List Nat} {vs : List Value} {ls : List (List Int)} {vo v2 : Value} {k g' c' : Nat} {l : List Int} {T1 T2 : TypeId} {o : Obj} (hll : l.length = k) (hbel : Below w.heap.size w W) (hown : W.ownsRow w.heap.size T2 1 vo ls.length vs) (hU : UOwn W w.heap.size T1 gs vs ls)
  (hb1 : Below W.heap.size W w1) (ho1 : w1.ownsRow W.heap.size T1 1 (.slice (some ⟨g', 0, none⟩) k c') k (II l)) (hg2 : (w1.alloc o).grownBy w2 vo.ownBlock) (ho2 : w2.ownsRow w.heap.size T2 1 v2 (ls.length + 1) (vs ++ [.slice (some ⟨g', 0, none⟩) k c'])) (hb2 : Below w.heap.size (w1.alloc o) w2) (hne : T2 ≠ T1) :
  w2.ownsRow w.heap.size T2 1 v2 (ls ++ [l]).length (vs ++ [.slice (some ⟨g', 0, none⟩) k c']) ∧ UOwn w2 w.heap.size T1 (gs ++ [g']) (vs ++ [.slice (some ⟨g', 0, none⟩) k c']) (ls ++ [l]) ∧ Below w.heap.size w w2 := by
 subst hll
 have h1 := (hU.below hb1).snoc (g := g') (c := c') (l := l) (fun y hy => by have := (hU.lt y hy).2; have := (own_lt ho1).1; omega) (own_less ho1 hbel.size)
 exact ⟨by rw [List.length_append]; exact ho2, h1.push (own_below hown hb1 (Nat.le_refl _)) hne hg2, (belA (belN hbel hb1) _).trans hb2⟩

set_option maxRecDepth 100000 in
set_option maxHeartbeats 4000000 in
theorem units_spec (A : Option Addr) (n c : Nat) (xs : List Int) (hn : n ≤ 10000000) (hc : n ≤ c) (w : World) (hr : Reads w w.heap.size 1 A n (II xs)) :
  Calls Tryz.prog 289 #[.slice A n c] w fun e w' => ∃ A' m c', e = .returned (.slice A' m c') ∧ LAt w' w'.heap.size A' m (unitsP xs) ∧ Below w.heap.size w w' := by
 have hl : xs.length = n := by have := hr.1; rw [II_length] at this; omega
 have HL := Lib.hid hl
 have Hr := Lib.hid hr
 clear hr
 go_enter Tryz.func289, Tryz.ntmps289
 go_wp2
 go_loopw [3, 4, 5] (fun s3 s4 i wr => ∃ (k f : Nat) (ls : List (List Int)) (gs : List Nat) (vs : List Value) (vo : Value), vo = s3 ∧ 1 ≤ k ∧ k ≤ n + 1 ∧ ls.length ≤ k ∧ i = .int .i64 k ∧ s4 = .int .i64 f ∧ f ≤ k ∧ Hid (UnitsTo xs ls f k) ∧ wr.ownsRow w.heap.size 121 1 s3 ls.length vs ∧ Hid (UOwn wr w.heap.size 3 gs vs ls) ∧ Below w.heap.size w wr)
  (fun _ _ i _ => n + 2 - (intOf i).toNat)
 case atStart => exact ⟨1, 0, [], [], [], _, rfl, by omega, by omega, by simp, rfl, rfl, by omega, unitsTo_start xs, World.ownsRow_lit w #[] 0 (Nat.le_refl _) (by unfold maxLen; omega) rfl, UOwn.nil_ _ _ _, belA (bel0 w) _⟩
 case round =>
  obtain ⟨k, f, ls, gs, vs, vo, hvo, hk1, hk, hlk, rfl, rfl, hfk, hT, hown, hU, hbel⟩ := hrel
  subst hvo
  have hsz := hbel.size
  by_cases hlt : k ≤ n
  ·have hf := unitsTo_f hT.out (by have := HL.out; omega)
   have q0 : (0 : Int) ≤ ↑k := by omega
   have q1 : (↑k : Int) ≤ ↑n := by omega
   obtain ⟨_, ad, hA, _, _⟩ := reads_at (Hr.out.below hbel) (k := 0) (by omega)
   subst hA
   have hcf : ¬ c = f := by omega
   have hkf0 : 0 < k - f := by omega
   have hkf1 : k - f ≤ 10000000 := by omega
   have Hrs := Lib.hid (reads_sub (Hr.out.below hbel) hf hlt)
   obtain ⟨l, hl'⟩ : ∃ l, (xs.take k).drop f = l := ⟨_, rfl⟩
   have hll : l.length = k - f := by rw [← hl', List.length_drop, List.length_take]; have := HL.out; omega
   have HLl := Lib.hid hl'
   have Hll := Lib.hid hll
   rw [hl'] at Hrs
   clear hl' hll
   have z0 : (0 : Int) ≤ ↑f := by omega
   have z1 : (↑f : Int) ≤ ↑k := by omega
   have z2 : (↑k : Int) ≤ ↑c := by omega
   by_cases hkn : k = n
   ·have Hto := Lib.hid (show UnitsTo xs (ls ++ [l]) k (k + 1) by rw [← HLl.out]; exact unitsTo_end hT.out (by have := HL.out; omega))
    have hk1' : ((k : Int) == (n : Int)) = true := by simp [hkn]
    clear hkn hlt
    go_wp2_with (first
     | (at_builtin; refine wpList_app _ rfl _ _ _ rfl Tryz.el_int (World.ownsRow_lit (e := 3) (size := 1) wr #[] 0 (Nat.le_refl _) (by unfold maxLen; omega) rfl) rfl ((Hrs.out.more hsz).alloc (Nat.le_refl _) _) rfl (II_cells l) (max_small (by omega)) (by omega) (by simp) ?_; intro v1 w1 own1 hg1 hor hb1; obtain ⟨g', c', rfl⟩ := own_form1 own1 (by omega); have Own1 := Lib.hid own1; have hbw := Lib.hid (show Below wr.heap.size wr w1 from (belA (bel0 wr) _).trans hb1); clear own1 hg1 hor hb1)
     | (at_builtin; go_must (refine wpList_app _ rfl _ _ _ rfl Tryz.el_ints ((own_below hown hbw.out (Nat.le_refl _)).alloc _) rfl (reads_new _ _ _ _ 1 (by rfl)) rfl (by simp [Value.oneCell']) (max_small (by omega)) (by omega) (by have := hbw.out.size; simp; omega) ?_); intro v2 w2 own2 hg2 hor2 hb2))
    simp only [Nat.zero_add, List.nil_append] at Own1
    obtain ⟨r1, r2, r3⟩ := units_push (g' := g') (c' := c') (k := k - f) Hll.out hbel hown hU.out hbw.out (by simpa using Own1.out) (by simpa using hg2) (by simpa using own2) (by simpa using hb2) (by decide)
    have R1 := Lib.hid r1
    have R2 := Lib.hid r2
    clear r1 r2 own2 hg2
    go_wp2
    go_roundw
    case rel => exact ⟨k + 1, k, ls ++ [l], gs ++ [g'], vs ++ [.slice (some ⟨g', 0, none⟩) (k - f) c'], _, rfl, by omega, by omega, by rw [List.length_append]; simp; omega, by go_num, rfl, by omega, Hto.out, R1.out, R2, r3⟩
    case measure => simp [intOf]; omega
   ·have hkl : k < n := by omega
    obtain ⟨hkx, ad', hA', _, z5⟩ := reads_at (Hr.out.below hbel) hkl
    injection hA' with hA'
    subst hA'
    have q3 : (↑k : Int) < ↑n := by omega
    have hk1' : ((k : Int) == (n : Int)) = false := by rw [beq_eq_false_iff_ne]; omega
    have Hcut := Lib.hid (fun h => unitsTo_cut hT.out hkx h)
    have Hon := Lib.hid (fun h => unitsTo_on hT.out hkx h)
    rw [HLl.out] at Hcut
    obtain ⟨x, hx⟩ : ∃ x, xs[k] = x := ⟨_, rfl⟩
    rw [hx] at z5
    simp only [hx] at Hcut Hon
    clear hx hkn hlt
    go_wp2_with fail
    refine (class_spec _ _).mono ?_
    rintro e w0 ⟨rfl, hb0⟩
    have hbel0 := belN hbel hb0
    have hsz0 := hbel0.size
    have hown0 := own_below hown hb0 (Nat.le_refl _)
    have hU0 := Lib.hid (hU.out.below hb0)
    have Hrs0 := Lib.hid ((Hrs.out.more hsz).below hb0)
    clear z5 hown
    by_cases hcl : cls x = 0
    ·have hc0 : (cls x == 0) = true := by simpa using hcl
     have Hto := Lib.hid (Hcut.out hcl)
     clear hcl Hcut Hon
     go_wp2_with (first
      | (at_builtin; refine wpList_app _ rfl _ _ _ rfl Tryz.el_int (World.ownsRow_lit (e := 3) (size := 1) w0 #[] 0 (Nat.le_refl _) (by unfold maxLen; omega) rfl) rfl ((Hrs0.out.more hb0.size).alloc (Nat.le_refl _) _) rfl (II_cells l) (max_small (by omega)) (by omega) (by simp) ?_; intro v1 w1 own1 hg1 hor hb1; obtain ⟨g', c', rfl⟩ := own_form1 own1 (by omega); have Own1 := Lib.hid own1; have hbw := Lib.hid (show Below w0.heap.size w0 w1 from (belA (bel0 w0) _).trans hb1); clear own1 hg1 hor hb1)
      | (at_builtin; go_must (refine wpList_app _ rfl _ _ _ rfl Tryz.el_ints ((own_below hown0 hbw.out (Nat.le_refl _)).alloc _) rfl (reads_new _ _ _ _ 1 (by rfl)) rfl (by simp [Value.oneCell']) (max_small (by omega)) (by omega) (by have := hbw.out.size; simp; omega) ?_); intro v2 w2 own2 hg2 hor2 hb2))
     simp only [Nat.zero_add, List.nil_append] at Own1
     obtain ⟨r1, r2, r3⟩ := units_push (g' := g') (c' := c') (k := k - f) Hll.out hbel0 hown0 hU0.out hbw.out (by simpa using Own1.out) (by simpa using hg2) (by simpa using own2) (by simpa using hb2) (by decide)
     have R1 := Lib.hid r1
     have R2 := Lib.hid r2
     clear r1 r2 own2 hg2
     go_wp2
     go_roundw
     case rel => exact ⟨k + 1, k, ls ++ [l], gs ++ [g'], vs ++ [.slice (some ⟨g', 0, none⟩) (k - f) c'], _, rfl, by omega, by omega, by rw [List.length_append]; simp; omega, by go_num, rfl, by omega, Hto.out, R1.out, R2, r3⟩
     case measure => simp [intOf]; omega
    ·have hc0 : (cls x == 0) = false := by simpa using hcl
     have Hto := Lib.hid (Hon.out hcl)
     have HO := Lib.hid hown0
     clear hcl Hcut Hon hown0
     go_wp2
     go_roundw
     case rel => exact ⟨k + 1, f, ls, gs, vs, _, rfl, by omega, by omega, by omega, by go_num, rfl, by omega, Hto.out, HO.out, hU0, hbel0⟩
     case measure => simp [intOf]; omega
  ·have hk' : k = n + 1 := by omega
   obtain ⟨Ao, co, rfl, _⟩ := own_vals hown
   have Hown := Lib.hid hown
   have Hlt := Lib.hid hlt
   clear hown
   go_wp2
   go_ret
   exact ⟨_, _, _, rfl, by
    have h1 := hU.out.at_ rfl Hown.out
    rcases hT.out with ⟨h2, _⟩ | ⟨_, h2⟩
    ·have := HL.out; omega
    ·rw [← h2]; exact h1, hbel⟩

end Go.Proofs.YthdbomkddpnhaaaGreatDoor

