/- Frames of stores and files. -/
import Derived.Test.YtajgenjfhcapjaaFwLawC
import Derived.Test.YtajgenjfhcapjaaFrame
import Derived.Deep.Slices
import Derived.Deep.Fields
namespace Go.Proofs.Ytajgenjfhcapjaa
open Go Go.RowKit Go.WideShapes Go.ChangeShapes Go.Deep

section
variable {H : Type} {enc : TypeId × Value → H} {P : Program} {w : World} {base : Nat} {spare : Nat → Bool} {held : Bool}
theorem open_slice_fields {t e : TypeId} {fs : Array Field} {fuel : Nat} {cs : List Value} {x : DataW H × List MemPlace} (ht : P.underlying t = some (.slice e)) (he : P.underlying e = some (.struct fs))
    (hone : oneCellFields P fs = true) (hC : P.cellsOf e = fs.size) (h : DataW.trod enc P w base spare held fuel t cs = some x) :
    (cs = [.slice none 0 0] ∧ x = (.nil, [])) ∨
    ∃ (a : Addr) (len cap m : Nat) (D : Nat → DataW H) (Pl : Nat → List MemPlace), cs = [.slice (some a) len cap] ∧ base ≤ a.block ∧ len ≤ cap ∧ cap ≤ maxLen ∧ m = (if spare a.block then cap else len) ∧
      x = (.slice ((List.range len).map D) ((List.range (m - len)).map fun j => D (len + j)), MemPlace.row a (m * fs.size) ++ (List.range m).flatMap Pl) ∧
      ∀ i, i < m → ∃ (ys : List (DataW H × List MemPlace)) (n : Nat), D i = .agg (ys.map (·.1)) ∧ Pl i = ys.flatMap (·.2) ∧ ys.length = fs.size ∧
        ∀ (j : Nat) (f : Field), fs[j]? = some f → ∃ (v : Value) (y : DataW H × List MemPlace), w.cell? (a.add (i * fs.size + j)) = some v ∧ ys[j]? = some y ∧ DataW.trod enc P w base spare held n f.type [v] = some y := by
  rcases open_slice ht h with h0 | ⟨a, len, cap, m, n, D, Pl, hcs, hb, hl, hm, hmm, hx, hi⟩
  · exact .inl h0
  · refine .inr ⟨a, len, cap, m, D, Pl, hcs, hb, hl, hm, hmm, by rw [hC] at hx; exact hx, fun i him => ?_⟩
    obtain ⟨cs', hc, ht'⟩ := hi i him
    rw [hC] at hc
    obtain ⟨ys, n', hn', hy, hlen, hyl, hf⟩ := DataW.trod_struct he ht'
    obtain ⟨_, hcl, hat⟩ := World.cells?_some hc
    simp only [Prod.mk.injEq] at hy
    refine ⟨ys, n', hy.1, hy.2, hyl, fun j f hj => ?_⟩
    obtain ⟨ho, hk⟩ := hone_of hone j f hj
    have hjl : j < fs.size := (Array.getElem?_eq_some_iff.1 hj).1
    have hcell := hat j hjl
    have hv : cs'[j]? = some (cs'[j]'(by omega)) := List.getElem?_eq_getElem (by omega)
    have h1 := hf j f hj
    rw [ho, hk] at h1
    have hone' : (cs'.drop j).take 1 = [cs'[j]'(by omega)] := by
      rw [List.drop_eq_getElem_cons (by omega)]
      rfl
    rw [hone'] at h1
    have hys : ys[j]? = some (ys[j]'(by omega)) := List.getElem?_eq_getElem (by omega)
    refine ⟨_, _, ?_, hys, h1.trans hys⟩
    rw [← Go.Deep.add_add, hcell, hv]
end

theorem Try.one78 : Try.prog.cellsOf 78 = 3 := by kernel_rfl
theorem Try.one25 : Try.prog.cellsOf 25 = 2 := by kernel_rfl
theorem Try.one28 : Try.prog.cellsOf 28 = 2 := by kernel_rfl
theorem Try.onc4 : Try.prog.cellsOf 4 = 1 := by kernel_rfl

section
variable {H : Type} {enc : TypeId × Value → H} {w : World} {base : Nat} {spare : Nat → Bool} {held : Bool}
theorem open_fields {P : Program} {e : TypeId} {fs : Array Field} {fuel : Nat} {cs : List Value} {x : DataW H × List MemPlace} (he : P.underlying e = some (.struct fs))
    (hone : oneCellFields P fs = true) (hcs : cs.length = fs.size) (h : DataW.trod enc P w base spare held fuel e cs = some x) :
    ∃ (ys : List (DataW H × List MemPlace)) (n : Nat), ∀ (j : Nat) (f : Field), fs[j]? = some f → ∃ (v : Value) (y : DataW H × List MemPlace), cs[j]? = some v ∧ ys[j]? = some y ∧ DataW.trod enc P w base spare held n f.type [v] = some y := by
  obtain ⟨ys, n', hn', hy, hlen, hyl, hf⟩ := DataW.trod_struct he h
  refine ⟨ys, n', fun j f hj => ?_⟩
  obtain ⟨ho, hk⟩ := hone_of hone j f hj
  have hjl : j < fs.size := (Array.getElem?_eq_some_iff.1 hj).1
  have h1 := hf j f hj
  rw [ho, hk] at h1
  have hone' : (cs.drop j).take 1 = [cs[j]'(by omega)] := by
    rw [List.drop_eq_getElem_cons (by omega)]
    rfl
  rw [hone'] at h1
  have hys : ys[j]? = some (ys[j]'(by omega)) := List.getElem?_eq_getElem (by omega)
  exact ⟨_, _, List.getElem?_eq_getElem (by omega), hys, h1.trans hys⟩

set_option maxRecDepth 100000 in
theorem open_exts {fuel : Nat} {cs : List Value} {x : DataW H × List MemPlace} (h : DataW.trod enc Try.prog w base spare held fuel 26 cs = some x) :
    ∃ (A : Option Addr) (c : Nat) (l : List ExtD), cs = [.slice A l.length c] ∧ Reads w w.heap.size 3 A l.length (XS l) ∧ l.length ≤ 9223372036854775807 := by
  rcases open_slice_fields Try.underlying26 Try.underlying78 (by kernel_rfl) Try.one78 h with ⟨rfl, _⟩ | ⟨a, len, cap, m, D, Pl, rfl, hb, hl, hm, hmm, _, hi⟩
  · exact ⟨none, 0, [], rfl, Reads.none_, by simp⟩
  · have hlm : len ≤ m := by rw [hmm]; split <;> omega
    have each : ∀ i, ∃ e : ExtD, i < len → (w.cell? (a.add (i * 3 + 0)) = some (.int .i64 e.a) ∧ w.cell? (a.add (i * 3 + 1)) = some (.int .i64 e.b) ∧ w.cell? (a.add (i * 3 + 2)) = some (.int .i64 e.l)) := by
      intro i
      by_cases hil : i < len
      · obtain ⟨ys, n, _, _, _, hf⟩ := hi i (by omega)
        obtain ⟨v0, y0, c0, _, t0⟩ := hf 0 _ rfl
        obtain ⟨v1, y1, c1, _, t1⟩ := hf 1 _ rfl
        obtain ⟨v2, y2, c2, _, t2⟩ := hf 2 _ rfl
        obtain ⟨x0, e0, _, _⟩ := DataW.trod_int Try.underlying3 t0
        obtain ⟨x1, e1, _, _⟩ := DataW.trod_int Try.underlying3 t1
        obtain ⟨x2, e2, _, _⟩ := DataW.trod_int Try.underlying3 t2
        simp at e0 e1 e2
        subst e0 e1 e2
        exact ⟨⟨x0, x1, x2⟩, fun _ => ⟨c0, c1, c2⟩⟩
      · exact ⟨⟨0, 0, 0⟩, fun h => absurd h hil⟩
    obtain ⟨E, hE⟩ := Classical.skolem.1 each
    have hlen : ((List.range len).map E).length = len := by simp
    refine ⟨some a, cap, (List.range len).map E, by rw [hlen], ⟨by rw [XS_length], fun hn => ⟨a, rfl, ?_, fun j u hu => ?_⟩⟩, by rw [hlen]; unfold maxLen at hm; omega⟩
    · have := World.block_lt_of_cell? _ _ (hE 0 (by omega)).1
      rwa [block_of_add] at this
    · have hj : j < len * 3 := by
        have := (List.getElem?_eq_some_iff.1 hu).1
        rw [XS_length, hlen] at this
        exact this
      have hk : j / 3 < len := by omega
      obtain ⟨g0, g1, g2⟩ := XS_get ((List.range len).map E) (j / 3) (by omega)
      have hEk : ((List.range len).map E)[j / 3]'(by omega) = E (j / 3) := by simp
      rw [hEk] at g0 g1 g2
      obtain ⟨z0, z1, z2⟩ := hE (j / 3) hk
      rcases (show j = j / 3 * 3 + 0 ∨ j = j / 3 * 3 + 1 ∨ j = j / 3 * 3 + 2 by omega) with h0 | h0 | h0
      · rw [h0] at hu ⊢; exact z0.trans (g0.symm.trans hu)
      · rw [h0] at hu ⊢; exact z1.trans (g1.symm.trans hu)
      · rw [h0] at hu ⊢; exact z2.trans (g2.symm.trans hu)

set_option maxRecDepth 100000 in
theorem open_bits {fuel : Nat} {cs : List Value} {x : DataW H × List MemPlace} (h : DataW.trod enc Try.prog w base spare held fuel 22 cs = some x) :
    ∃ (A : Option Addr) (c : Nat) (l : List Bool), cs = [.slice A l.length c] ∧ Reads w w.heap.size 1 A l.length (BS l) ∧ l.length ≤ 9223372036854775807 := by
  rcases open_slice1 Try.underlying22 Try.onc4 h with ⟨rfl, _⟩ | ⟨a, len, cap, m, n', V, D, Pl, rfl, hb, hl, hm, hmm, _, hi⟩
  · exact ⟨none, 0, [], rfl, Reads.none_, by simp⟩
  · have hlm : len ≤ m := by rw [hmm]; split <;> omega
    have each : ∀ i, ∃ s : Bool, i < len → V i = .bool s := by
      intro i
      by_cases hil : i < len
      · obtain ⟨x0, e0, _⟩ := DataW.trod_bool Try.underlying4 (hi i (by omega)).2
        simp at e0
        exact ⟨x0, fun _ => e0⟩
      · exact ⟨false, fun h => absurd h hil⟩
    obtain ⟨E, hE⟩ := Classical.skolem.1 each
    have hlen : ((List.range len).map E).length = len := by simp
    refine ⟨some a, cap, (List.range len).map E, by rw [hlen], ⟨by rw [BS_length, Nat.mul_one], fun hn => ⟨a, rfl, ?_, fun j u hu => ?_⟩⟩, by rw [hlen]; unfold maxLen at hm; omega⟩
    · have := World.block_lt_of_cell? _ _ (hi 0 (by omega)).1
      rwa [block_of_add] at this
    · have hj : j < len := by
        have := (List.getElem?_eq_some_iff.1 hu).1
        rw [BS_length, hlen] at this
        exact this
      rw [(hi j (by omega)).1, hE j hj]
      unfold BS at hu
      rw [List.getElem?_map, List.getElem?_map, List.getElem?_range hj] at hu
      simpa using hu

theorem two_cells {P : Program} {r : Reach} {b0 : Nat} {t : TypeId} {fs : Array Field} {v : Value} (ht : P.underlying t = some (.struct fs)) (hc : P.cellsOf t = 2) (hv : Value.okWide P w r b0 t v) : ∃ a b, v = .agg #[a, b] := by
  unfold Value.okWide at hv
  rw [ht] at hv
  obtain ⟨cs, rfl, hsz, _⟩ := hv
  rw [hc] at hsz
  obtain ⟨l⟩ := cs
  match l, hsz with
  | [a, b], _ => exact ⟨a, b, rfl⟩

set_option maxRecDepth 100000 in
theorem open_sto_is {r : Reach} {b0 : Nat} {v : Value} {d : DataW H} {p : List MemPlace} (hv : Value.okWide Try.prog w r b0 25 v) (h : DataW.Trod enc Try.prog w base spare held 25 v d p) :
    ∃ S : StoD, StoBig S ∧ IsSto w v S := by
  obtain ⟨fuel, hf⟩ := h
  obtain ⟨a, b, rfl⟩ := two_cells Try.underlying25 Try.one25 hv
  obtain ⟨ys, n, hfs⟩ := open_fields Try.underlying25 (by kernel_rfl) (by rfl) hf
  obtain ⟨v0, y0, c0, _, t0⟩ := hfs 0 _ rfl
  obtain ⟨v1, y1, c1, _, t1⟩ := hfs 1 _ rfl
  simp [Value.cells] at c0 c1
  subst c0 c1
  obtain ⟨A1, k1, l1, e0, h1, z1⟩ := open_bits t0
  obtain ⟨A2, k2, l2, e1, h2, z2, z3⟩ := open_strs t1
  simp at e0 e1
  subst e0 e1
  exact ⟨⟨l1, l2⟩, ⟨z1, z2, z3⟩, A1, k1, A2, k2, rfl, h1, h2⟩
set_option maxRecDepth 100000 in
theorem open_fil_is {r : Reach} {b0 : Nat} {v : Value} {d : DataW H} {p : List MemPlace} (hv : Value.okWide Try.prog w r b0 28 v) (h : DataW.Trod enc Try.prog w base spare held 28 v d p) :
    ∃ F : FilD, F.xs.length ≤ 9223372036854775807 ∧ IsFil w v F := by
  obtain ⟨fuel, hf⟩ := h
  obtain ⟨a, b, rfl⟩ := two_cells Try.underlying28 Try.one28 hv
  obtain ⟨ys, n, hfs⟩ := open_fields Try.underlying28 (by kernel_rfl) (by rfl) hf
  obtain ⟨v0, y0, c0, _, t0⟩ := hfs 0 _ rfl
  obtain ⟨v1, y1, c1, _, t1⟩ := hfs 1 _ rfl
  simp [Value.cells] at c0 c1
  subst c0 c1
  obtain ⟨x0, e0, _, _⟩ := DataW.trod_int Try.underlying3 t0
  obtain ⟨A1, k1, l1, e1, h1, z1⟩ := open_exts t1
  simp at e0 e1
  subst e0 e1
  exact ⟨⟨x0, l1⟩, z1, A1, k1, rfl, h1⟩
end

end Go.Proofs.Ytajgenjfhcapjaa
