/- Frames of pages, rows as opaque values, volumes. -/
import Derived.Test.YthdbomkddpnhaaaGreatDoorPages
import Derived.Test.YthdbomkddpnhaaaGreatDoorFrame
import Derived.Deep.Slices
import Derived.Deep.Fields
import Derived.Test.YthdbomkddpnhaaaGreatDoorIsPg
import Derived.Test.YthdbomkddpnhaaaGreatDoorVolA
namespace Go.Proofs.YthdbomkddpnhaaaGreatDoor
open Go Go.RowKit Go.WideShapes Go.ChangeShapes Go.Deep

section
variable {H : Type} {enc : TypeId × Value → H} {P : Program} {w : World} {base : Nat} {spare : Nat → Bool} {held : Bool}
theorem open_slice_fields {t e : TypeId} {fs : Array Field} {fuel : Nat} {cs : List Value} {x : DataW H × List MemPlace} (ht : P.underlying t = some (.slice e)) (he : P.underlying e = some (.struct fs))
    (hone : oneCellFields P fs = true) (hC : P.cellsOf e = fs.size) (h : DataW.trod enc P w base spare held fuel t cs = some x) :
    (cs = [.slice none 0 0] ∧ x = (.nil, [])) ∨
    ∃ (a : Addr) (len cap m : Nat) (D : Nat → DataW H) (Pl : Nat → List MemPlace), cs = [.slice (some a) len cap] ∧ base ≤ a.block ∧ len ≤ cap ∧ cap ≤ maxLen ∧ m = (if spare a.block then cap else len) ∧
      x = (.slice ((List.range len).map D) ((List.range (m - len)).map fun j => D (len + j)), MemPlace.row a (m * fs.size) ++ (List.range m).flatMap Pl) ∧
      ∀ i, i < m → ∃ (ys : List (DataW H × List MemPlace)) (n : Nat), D i = .agg (ys.map (·.1)) ∧ Pl i = ys.flatMap (·.2) ∧ ys.length = fs.size ∧
        ∀ (j : Nat) (f : Field), fs[j]? = some f → ∃ (v : Value) (y : DataW H × List MemPlace), w.cell? (a.add (i * fs.size + j)) = some v ∧ ys[j]? = some y ∧ DataW.trod enc P w base spare held n f.type [v] = some y := by
  rcases open_slice ht h with h0 | ⟨a, len, cap, m, n, D, Pl, hcs, hb, hl, hm, hmm, hx, hi⟩
  · exact .inl h0
  · refine .inr ⟨a, len, cap, m, D, Pl, hcs, hb, hl, hm, hmm, by rw [hC] at hx; exact hx, fun i him => ?_⟩
    obtain ⟨cs', hc, ht'⟩ := hi i him
    rw [hC] at hc
    obtain ⟨ys, n', hn', hy, hlen, hyl, hf⟩ := DataW.trod_struct he ht'
    obtain ⟨_, hcl, hat⟩ := World.cells?_some hc
    simp only [Prod.mk.injEq] at hy
    refine ⟨ys, n', hy.1, hy.2, hyl, fun j f hj => ?_⟩
    obtain ⟨ho, hk⟩ := hone_of hone j f hj
    have hjl : j < fs.size := (Array.getElem?_eq_some_iff.1 hj).1
    have hcell := hat j hjl
    have hv : cs'[j]? = some (cs'[j]'(by omega)) := List.getElem?_eq_getElem (by omega)
    have h1 := hf j f hj
    rw [ho, hk] at h1
    have hone' : (cs'.drop j).take 1 = [cs'[j]'(by omega)] := by
      rw [List.drop_eq_getElem_cons (by omega)]
      rfl
    rw [hone'] at h1
    have hys : ys[j]? = some (ys[j]'(by omega)) := List.getElem?_eq_getElem (by omega)
    refine ⟨_, _, ?_, hys, h1.trans hys⟩
    rw [← Go.Deep.add_add, hcell, hv]
end

theorem Tryz.one43 : Tryz.prog.cellsOf 43 = 1 := by kernel_rfl
theorem Tryz.one164 : Tryz.prog.cellsOf 164 = 4 := by kernel_rfl

section
variable {H : Type} {enc : TypeId × Value → H} {w : World} {base : Nat} {spare : Nat → Bool} {held : Bool}
set_option maxRecDepth 100000 in
theorem open_row {fuel : Nat} {cs : List Value} {x : DataW H × List MemPlace} (h : DataW.trod enc Tryz.prog w base spare held fuel 43 cs = some x) :
    ∃ (A : Option Addr) (c : Nat) (l : List EntD), cs = [.slice A l.length c] ∧ Reads w w.heap.size 4 A l.length (ES l) ∧ l.length ≤ 9223372036854775807 ∧ ∀ e ∈ l, e.s.size ≤ 9223372036854775807 := by
  rcases open_slice_fields Tryz.underlying43 Tryz.underlying164 (by kernel_rfl) Tryz.one164 h with ⟨rfl, _⟩ | ⟨a, len, cap, m, D, Pl, rfl, hb, hl, hm, hmm, _, hi⟩
  · exact ⟨none, 0, [], rfl, Reads.none_, by simp, by simp⟩
  · have hlm : len ≤ m := by rw [hmm]; split <;> omega
    have each : ∀ i, ∃ e : EntD, i < len → (w.cell? (a.add (i * 4 + 0)) = some (.int .i64 e.h) ∧ w.cell? (a.add (i * 4 + 1)) = some (.int .i64 e.i) ∧ w.cell? (a.add (i * 4 + 2)) = some (.string e.s) ∧ w.cell? (a.add (i * 4 + 3)) = some (.int .i64 e.d)) ∧ e.s.size ≤ maxLen := by
      intro i
      by_cases hil : i < len
      · obtain ⟨ys, n, _, _, _, hf⟩ := hi i (by omega)
        obtain ⟨v0, y0, c0, _, t0⟩ := hf 0 _ rfl
        obtain ⟨v1, y1, c1, _, t1⟩ := hf 1 _ rfl
        obtain ⟨v2, y2, c2, _, t2⟩ := hf 2 _ rfl
        obtain ⟨v3, y3, c3, _, t3⟩ := hf 3 _ rfl
        obtain ⟨x0, e0, _, _⟩ := DataW.trod_int Tryz.underlying3 t0
        obtain ⟨x1, e1, _, _⟩ := DataW.trod_int Tryz.underlying3 t1
        obtain ⟨x2, e2, _, w2⟩ := DataW.trod_string Tryz.underlying9 t2
        obtain ⟨x3, e3, _, _⟩ := DataW.trod_int Tryz.underlying3 t3
        simp at e0 e1 e2 e3
        subst e0 e1 e2 e3
        exact ⟨⟨x0, x1, x2, x3⟩, fun _ => ⟨⟨c0, c1, c2, c3⟩, w2⟩⟩
      · exact ⟨⟨0, 0, ⟨#[]⟩, 0⟩, fun h => absurd h hil⟩
    obtain ⟨E, hE⟩ := Classical.skolem.1 each
    have hlen : ((List.range len).map E).length = len := by simp
    refine ⟨some a, cap, (List.range len).map E, by rw [hlen], ⟨by rw [ES_length], fun hn => ⟨a, rfl, ?_, fun j u hu => ?_⟩⟩, by rw [hlen]; unfold maxLen at hm; omega, ?_⟩
    · have := World.block_lt_of_cell? _ _ (hE 0 (by omega)).1.1
      rwa [block_of_add] at this
    · have hj : j < len * 4 := by
        have := (List.getElem?_eq_some_iff.1 hu).1
        rw [ES_length, hlen] at this
        exact this
      have hk : j / 4 < len := by omega
      obtain ⟨g0, g1, g2, g3⟩ := ES_get ((List.range len).map E) (j / 4) (by omega)
      have hEk : ((List.range len).map E)[j / 4]'(by omega) = E (j / 4) := by simp
      rw [hEk] at g0 g1 g2 g3
      obtain ⟨⟨z0, z1, z2, z3⟩, _⟩ := hE (j / 4) hk
      rcases (show j = j / 4 * 4 + 0 ∨ j = j / 4 * 4 + 1 ∨ j = j / 4 * 4 + 2 ∨ j = j / 4 * 4 + 3 by omega) with h0 | h0 | h0 | h0
      · rw [h0] at hu ⊢; exact z0.trans (g0.symm.trans hu)
      · rw [h0] at hu ⊢; exact z1.trans (g1.symm.trans hu)
      · rw [h0] at hu ⊢; exact z2.trans (g2.symm.trans hu)
      · rw [h0] at hu ⊢; exact z3.trans (g3.symm.trans hu)
    · intro e he
      obtain ⟨i, hi', rfl⟩ := List.mem_map.1 he
      have := (hE i (List.mem_range.1 hi')).2
      unfold maxLen at this; omega

end

section
variable {H : Type} {enc : TypeId × Value → H} {w : World} {base : Nat} {spare : Nat → Bool} {held : Bool}
set_option maxRecDepth 100000 in
theorem open_rows_is {r : Reach} {b0 : Nat} {v : Value} {d : DataW H} {p : List MemPlace} (hv : Value.okWide Tryz.prog w r b0 43 v) (h : DataW.Trod enc Tryz.prog w base spare held 43 v d p) :
    ∃ xs : List EntD, (∀ e ∈ xs, e.s.size ≤ 9223372036854775807) ∧ xs.length ≤ 9223372036854775807 ∧ IsS w v xs := by
  obtain ⟨fuel, hf⟩ := h
  obtain ⟨A, c, l, h1, hP, hn, hz⟩ := open_row hf
  obtain ⟨A2, n2, c2, rfl⟩ := okWide_slice Tryz.underlying43 hv
  simp [Value.cells] at h1
  obtain ⟨rfl, rfl, rfl⟩ := h1
  exact ⟨l, hz, hn, A2, c2, rfl, hP⟩
end

theorem Tryz.one145 : Tryz.prog.cellsOf 145 = 5 := by kernel_rfl
theorem Tryz.one24 : Tryz.prog.cellsOf 24 = 2 := by kernel_rfl

section
variable {H : Type} {enc : TypeId × Value → H} {w : World} {base : Nat} {spare : Nat → Bool} {held : Bool}
theorem open_fields {P : Program} {e : TypeId} {fs : Array Field} {fuel : Nat} {cs : List Value} {x : DataW H × List MemPlace} (he : P.underlying e = some (.struct fs))
    (hone : oneCellFields P fs = true) (hcs : cs.length = fs.size) (h : DataW.trod enc P w base spare held fuel e cs = some x) :
    ∃ (ys : List (DataW H × List MemPlace)) (n : Nat), ∀ (j : Nat) (f : Field), fs[j]? = some f → ∃ (v : Value) (y : DataW H × List MemPlace), cs[j]? = some v ∧ ys[j]? = some y ∧ DataW.trod enc P w base spare held n f.type [v] = some y := by
  obtain ⟨ys, n', hn', hy, hlen, hyl, hf⟩ := DataW.trod_struct he h
  refine ⟨ys, n', fun j f hj => ?_⟩
  obtain ⟨ho, hk⟩ := hone_of hone j f hj
  have hjl : j < fs.size := (Array.getElem?_eq_some_iff.1 hj).1
  have h1 := hf j f hj
  rw [ho, hk] at h1
  have hone' : (cs.drop j).take 1 = [cs[j]'(by omega)] := by
    rw [List.drop_eq_getElem_cons (by omega)]
    rfl
  rw [hone'] at h1
  have hys : ys[j]? = some (ys[j]'(by omega)) := List.getElem?_eq_getElem (by omega)
  exact ⟨_, _, List.getElem?_eq_getElem (by omega), hys, h1.trans hys⟩

set_option maxRecDepth 100000 in
theorem open_inodes {fuel : Nat} {cs : List Value} {x : DataW H × List MemPlace} (h : DataW.trod enc Tryz.prog w base spare held fuel 22 cs = some x) :
    ∃ (A : Option Addr) (c : Nat) (xs : List InoD), cs = [.slice A xs.length c] ∧ VAt w w.heap.size A xs.length xs ∧ xs.length ≤ 9223372036854775807 ∧ ∀ x ∈ xs, InoBig x := by
  rcases open_slice_fields Tryz.underlying22 Tryz.underlying145 (by kernel_rfl) Tryz.one145 h with ⟨rfl, _⟩ | ⟨a, len, cap, m, D, Pl, rfl, hb, hl, hm, hmm, _, hi⟩
  · exact ⟨none, 0, [], rfl, ⟨[], Reads.none_, rfl, rfl, by simp⟩, by simp, by simp⟩
  · have hlm : len ≤ m := by rw [hmm]; split <;> omega
    have each : ∀ i, ∃ q : InoD × Value, i < len → (w.cell? (a.add (i * 5 + 0)) = some (.int .i64 q.1.id) ∧ w.cell? (a.add (i * 5 + 1)) = some (.int .i64 q.1.kd) ∧ w.cell? (a.add (i * 5 + 2)) = some (.int .i64 q.1.ln) ∧ w.cell? (a.add (i * 5 + 3)) = some (.string q.1.s) ∧ w.cell? (a.add (i * 5 + 4)) = some q.2) ∧
        (∃ A' c', q.2 = .slice A' q.1.es.length c' ∧ Reads w w.heap.size 4 A' q.1.es.length (ES q.1.es)) ∧ InoBig q.1 := by
      intro i
      by_cases hil : i < len
      · obtain ⟨ys, n, _, _, _, hf⟩ := hi i (by omega)
        obtain ⟨v0, y0, c0, _, t0⟩ := hf 0 _ rfl
        obtain ⟨v1, y1, c1, _, t1⟩ := hf 1 _ rfl
        obtain ⟨v2, y2, c2, _, t2⟩ := hf 2 _ rfl
        obtain ⟨v3, y3, c3, _, t3⟩ := hf 3 _ rfl
        obtain ⟨v4, y4, c4, _, t4⟩ := hf 4 _ rfl
        obtain ⟨x0, e0, _, _⟩ := DataW.trod_int Tryz.underlying3 t0
        obtain ⟨x1, e1, _, _⟩ := DataW.trod_int Tryz.underlying3 t1
        obtain ⟨x2, e2, _, _⟩ := DataW.trod_int Tryz.underlying3 t2
        obtain ⟨x3, e3, _, w3⟩ := DataW.trod_string Tryz.underlying9 t3
        obtain ⟨A', c', l, e4, hr, hn, hz⟩ := open_row t4
        simp at e0 e1 e2 e3 e4
        subst e0 e1 e2 e3 e4
        exact ⟨⟨⟨x0, x1, x2, x3, l⟩, .slice A' l.length c'⟩, fun _ => ⟨⟨c0, c1, c2, c3, c4⟩, ⟨A', c', rfl, hr⟩, ⟨by unfold maxLen at w3; simp only; omega, hn, hz⟩⟩⟩
      · exact ⟨⟨⟨0, 0, 0, ⟨#[]⟩, []⟩, .bool false⟩, fun h => absurd h hil⟩
    obtain ⟨E, hE⟩ := Classical.skolem.1 each
    have hlen : ((List.range len).map fun i => (E i).1).length = len := by simp
    have hlen2 : ((List.range len).map fun i => (E i).2).length = len := by simp
    refine ⟨some a, cap, (List.range len).map fun i => (E i).1, by rw [hlen], ⟨(List.range len).map fun i => (E i).2, ⟨by rw [IC_length _ _ (by simp)], fun hn => ⟨a, rfl, ?_, fun j u hu => ?_⟩⟩, rfl, by simp, fun i hi' => ?_⟩, by rw [hlen]; unfold maxLen at hm; omega, ?_⟩
    · rw [hlen] at hn
      have := World.block_lt_of_cell? _ _ (hE 0 (by omega)).1.1
      rwa [block_of_add] at this
    · have hj : j < len * 5 := by
        have := (List.getElem?_eq_some_iff.1 hu).1
        rw [IC_length _ _ (by simp), hlen] at this
        exact this
      have hk : j / 5 < len := by omega
      obtain ⟨g0, g1, g2, g3, g4⟩ := IC_get ((List.range len).map fun i => (E i).1) ((List.range len).map fun i => (E i).2) (j / 5) (by omega) (E (j / 5)).2 (by simp [hk])
      have hEk : ((List.range len).map fun i => (E i).1)[j / 5]'(by omega) = (E (j / 5)).1 := by simp
      rw [hEk] at g0 g1 g2 g3
      obtain ⟨⟨z0, z1, z2, z3, z4⟩, _⟩ := hE (j / 5) hk
      rcases (show j = j / 5 * 5 + 0 ∨ j = j / 5 * 5 + 1 ∨ j = j / 5 * 5 + 2 ∨ j = j / 5 * 5 + 3 ∨ j = j / 5 * 5 + 4 by omega) with h0 | h0 | h0 | h0 | h0
      · rw [h0] at hu ⊢; exact z0.trans (g0.symm.trans hu)
      · rw [h0] at hu ⊢; exact z1.trans (g1.symm.trans hu)
      · rw [h0] at hu ⊢; exact z2.trans (g2.symm.trans hu)
      · rw [h0] at hu ⊢; exact z3.trans (g3.symm.trans hu)
      · rw [h0] at hu ⊢; exact z4.trans (g4.symm.trans hu)
    · have hin : i < len := by omega
      obtain ⟨_, ⟨A', c', h1, h2⟩, _⟩ := hE i hin
      have hEk : ((List.range len).map fun i => (E i).1)[i]'hi' = (E i).1 := by simp
      rw [hEk]
      exact ⟨A', c', by rw [List.getElem?_map, List.getElem?_range hin]; simp [h1], h2⟩
    · intro x hx
      obtain ⟨i, hi', rfl⟩ := List.mem_map.1 hx
      exact (hE i (List.mem_range.1 hi')).2.2

set_option maxRecDepth 100000 in
theorem open_vol_is {r : Reach} {b0 : Nat} {v : Value} {d : DataW H} {p : List MemPlace} (hv : Value.okWide Tryz.prog w r b0 24 v) (h : DataW.Trod enc Tryz.prog w base spare held 24 v d p) :
    ∃ V : VolD, VolBig V ∧ True ∧ IsVol w v V := by
  obtain ⟨fuel, hf⟩ := h
  unfold Value.okWide at hv
  rw [Tryz.underlying24] at hv
  obtain ⟨cs, rfl, hsz, _⟩ := hv
  rw [Tryz.one24] at hsz
  obtain ⟨a, b, rfl⟩ : ∃ a b, cs = #[a, b] := by
    obtain ⟨l⟩ := cs
    match l, hsz with
    | [a, b], _ => exact ⟨a, b, rfl⟩
  obtain ⟨ys, n, hfs⟩ := open_fields Tryz.underlying24 (by kernel_rfl) (by rfl) hf
  obtain ⟨v0, y0, c0, _, t0⟩ := hfs 0 _ rfl
  obtain ⟨v1, y1, c1, _, t1⟩ := hfs 1 _ rfl
  simp [Value.cells] at c0 c1
  subst c0 c1
  obtain ⟨x0, e0, _, _⟩ := DataW.trod_int Tryz.underlying3 t0
  obtain ⟨A, c, xs, e1, hV, hn, hz⟩ := open_inodes t1
  simp at e0 e1
  subst e0 e1
  exact ⟨⟨x0, xs⟩, ⟨hn, hz⟩, trivial, A, c, rfl, hV⟩
end

end Go.Proofs.YthdbomkddpnhaaaGreatDoor
