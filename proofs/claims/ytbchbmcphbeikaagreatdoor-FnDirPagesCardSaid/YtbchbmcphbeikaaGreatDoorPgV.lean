/- Pages of one's own: rows of entries that lie in memory of one's own, and the row of them. -/
import Derived.Test.YtbchbmcphbeikaaGreatDoorPgOk
import Derived.Test.YtbchbmcphbeikaaGreatDoorRowOps
import Derived.Test.YtbchbmcphbeikaaGreatDoorInsE
import Derived.Test.YtbchbmcphbeikaaGreatDoorCpE
namespace Go.Proofs.YtbchbmcphbeikaaGreatDoor
open Go Go.RowKit

/-- A page of one's own: its block, the block's room, what stands in it, how much of that is shown, and with what room. -/
structure PgD where
  g : Nat
  c : Nat
  xs : List EntD
  n : Nat
  k : Nat
def PgD.val (p : PgD) : Value := .slice (some ⟨p.g, 0, none⟩) p.n p.k
def PgD.con (p : PgD) : List EntD := p.xs.take p.n
def PV (l : List PgD) : List Value := l.map PgD.val
theorem PV_append (a b : List PgD) : PV (a ++ b) = PV a ++ PV b := by simp [PV]
theorem PV_length (l : List PgD) : (PV l).length = l.length := by simp [PV]
theorem PV_cells (l : List PgD) : ∀ u ∈ PV l, u.oneCell' = true := by
  intro u hu
  obtain ⟨p, _, rfl⟩ := List.mem_map.1 hu
  rfl
theorem PV_take (l : List PgD) (k : Nat) : (PV l).take k = PV (l.take k) := by simp [PV, List.map_take]
theorem PV_drop (l : List PgD) (k : Nat) : (PV l).drop k = PV (l.drop k) := by simp [PV, List.map_drop]
theorem PV_mid (a b : List PgD) (x : PgD) : PV a ++ [x.val] ++ PV b = PV (a ++ x :: b) := by simp [PV]
theorem PV_get (l : List PgD) (k : Nat) (h : k < l.length) : (PV l)[k]? = some l[k].val := by simp [PV, h]
theorem Tryz.el_pg : ElemOk Tryz.prog 24 30 (.slice none 0 0) 1 24 := ⟨Tryz.underlying24, by kernel_rfl, rfl, by omega⟩

def OwnD (w : World) (lo : Nat) (p : PgD) : Prop := w.ownsRow lo 40 4 (.slice (some ⟨p.g, 0, none⟩) p.xs.length p.c) p.xs.length (ES p.xs) ∧ p.n ≤ p.xs.length
def OwnP (w : World) (lo : Nat) (L : List PgD) : Prop := (∀ p ∈ L, OwnD w lo p) ∧ L.Pairwise (fun p q => p.g ≠ q.g)
theorem OwnD.bl {w w' : World} {lo : Nat} {p : PgD} (h : OwnD w lo p) (hb : Below w.heap.size w w') : OwnD w' lo p := ⟨own_below h.1 hb (Nat.le_refl _), h.2⟩
theorem OwnD.grown {w w' : World} {lo g : Nat} {p : PgD} (h : OwnD w lo p) (hg : w.grownBy w' (some g)) (hne : p.g ≠ g) : OwnD w' lo p := by
  refine ⟨?_, h.2⟩
  obtain ⟨cur, h1, h2, h3⟩ := own_heap h.1
  obtain ⟨h4, h5, h6, h7⟩ := h3
  refine own_of_heap h1 ?_ h4 h5 h6 h7
  rw [hg.block p.g (Array.getElem?_eq_some_iff.1 h2).1 (by intro e; injection e with e; exact hne e)]
  exact h2
theorem OwnD.lt {w : World} {lo : Nat} {p : PgD} (h : OwnD w lo p) : lo ≤ p.g ∧ p.g < w.heap.size := by
  obtain ⟨cur, h1, h2, _⟩ := own_heap h.1
  exact ⟨h1, (Array.getElem?_eq_some_iff.1 h2).1⟩
theorem OwnP.bl {w w' : World} {lo : Nat} {L : List PgD} (h : OwnP w lo L) (hb : Below w.heap.size w w') : OwnP w' lo L := ⟨fun p hp => (h.1 p hp).bl hb, h.2⟩
theorem OwnP.grown {w w' : World} {lo g : Nat} {L : List PgD} (h : OwnP w lo L) (hg : w.grownBy w' (some g)) (hne : ∀ p ∈ L, p.g ≠ g) : OwnP w' lo L := ⟨fun p hp => (h.1 p hp).grown hg (hne p hp), h.2⟩
theorem OwnP.nil_ (w : World) (lo : Nat) : OwnP w lo [] := ⟨fun _ h => absurd h (List.not_mem_nil), .nil⟩
theorem OwnP.snoc {w : World} {lo : Nat} {L : List PgD} {p : PgD} (h : OwnP w lo L) (hp : OwnD w lo p) (hB : ∀ q ∈ L, q.g ≠ p.g) : OwnP w lo (L ++ [p]) :=
  ⟨fun q hq => (List.mem_append.1 hq).elim (h.1 q) (fun hq => by rw [List.mem_singleton] at hq; subst hq; exact hp), List.pairwise_append.2 ⟨h.2, by simp, fun a ha b hb => by rw [List.mem_singleton] at hb; subst hb; exact hB a ha⟩⟩
theorem OwnP.sub {w : World} {lo : Nat} {L M : List PgD} (h : OwnP w lo L) (hs : M.Sublist L) : OwnP w lo M := ⟨fun p hp => h.1 p (hs.subset hp), h.2.sublist hs⟩
/-- The row of pages is another block than each page. -/
theorem pg_ne {w : World} {lo base g0 m c0 : Nat} {xs : List Value} {p : PgD} (h0 : w.ownsRow base 30 1 (.slice (some ⟨g0, 0, none⟩) m c0) m xs) (h : OwnD w lo p) : p.g ≠ g0 := by
  rintro rfl
  obtain ⟨cur, _, h1, _⟩ := own_heap h0
  obtain ⟨cur', _, h2, _⟩ := own_heap h.1
  rw [h1] at h2
  simp at h2
/-- One page is made anew, in its block or in a new one. -/
theorem OwnP.set {w w' : World} {lo k : Nat} {L : List PgD} {q : PgD} (h : OwnP w lo L) (hk : k < L.length) (hg : w.grownBy w' (some L[k].g)) (hq : OwnD w' lo q) (hb : q.g = L[k].g ∨ w.heap.size ≤ q.g) : OwnP w' lo (L.set k q) := by
  have hp := List.pairwise_iff_getElem.1 h.2
  refine ⟨fun p hp' => ?_, List.pairwise_iff_getElem.2 fun i j hi hj hij => ?_⟩
  · obtain ⟨i, hi, rfl⟩ := List.mem_iff_getElem.1 hp'
    rw [List.length_set] at hi
    rw [List.getElem_set]
    split
    · exact hq
    · rename_i hne
      refine (h.1 _ (List.getElem_mem _)).grown hg ?_
      rcases Nat.lt_or_ge i k with hl | hl
      · exact hp i k hi hk hl
      · exact fun e => hp k i hk hi (by omega) e.symm
  · rw [List.length_set] at hi hj
    have lti := (h.1 _ (List.getElem_mem hi)).lt.2
    have ltj := (h.1 _ (List.getElem_mem hj)).lt.2
    rw [List.getElem_set, List.getElem_set]
    split
    · split
      · omega
      · rename_i e _
        subst e
        rcases hb with hb | hb
        · rw [hb]; exact hp k j hk hj hij
        · omega
    · split
      · rename_i e
        subst e
        rcases hb with hb | hb
        · rw [hb]; exact hp i k hi hk hij
        · omega
      · exact hp i j hi hj hij
theorem reads_take {w : World} {B size n : Nat} {A : Option Addr} {xs : List Value} (h : Reads w B size A n xs) (m : Nat) (hm : m ≤ n) : Reads w B size A m (xs.take (m * size)) := by
  have hl := h.1
  have hle : m * size ≤ n * size := Nat.mul_le_mul_right _ hm
  refine ⟨by rw [List.length_take]; omega, fun h0 => ?_⟩
  obtain ⟨ad, h1, h2, h3⟩ := h.2 (by omega)
  refine ⟨ad, h1, h2, fun j u hu => h3 j u ?_⟩
  have hj := (List.getElem?_eq_some_iff.1 hu).1
  rw [List.length_take] at hj
  rw [List.getElem?_take_of_lt (by omega)] at hu
  exact hu
/-- What is shown of a page is read. -/
theorem OwnD.reads {w : World} {lo : Nat} {p : PgD} (h : OwnD w lo p) : Reads w w.heap.size 4 (some ⟨p.g, 0, none⟩) p.con.length (ES p.con) := by
  have hr := Reads.of_own h.1
  have hn : p.con.length = p.n := by unfold PgD.con; rw [List.length_take]; have := h.2; omega
  rw [hn]
  have := reads_take hr p.n h.2
  rw [ES_take] at this
  exact this
/-- Pages that are read, all of them in blocks from a place on. -/
def PgFr (w : World) (lo : Nat) (A : Option Addr) (n : Nat) (ps : List (List EntD)) : Prop :=
  ∃ vs, Reads w w.heap.size 1 A n vs ∧ ps.length = n ∧ (∀ ad, A = some ad → lo ≤ ad.block) ∧ ∀ (i : Nat) (hi : i < ps.length), ∃ A' c, vs[i]? = some (.slice A' ps[i].length c) ∧ Reads w w.heap.size 4 A' ps[i].length (ES ps[i]) ∧ ∀ ad, A' = some ad → lo ≤ ad.block
theorem PgFr.at_ {w : World} {lo : Nat} {A : Option Addr} {n : Nat} {ps : List (List EntD)} (h : PgFr w lo A n ps) : PagesAt w w.heap.size A n ps := by
  obtain ⟨vs, h1, h2, _, h4⟩ := h
  exact ⟨vs, h1, h2, fun i hi => by obtain ⟨A', c, a, b, _⟩ := h4 i hi; exact ⟨A', c, a, b⟩⟩
theorem PgFr.mono {w : World} {lo lo' : Nat} {A : Option Addr} {n : Nat} {ps : List (List EntD)} (h : PgFr w lo A n ps) (hl : lo' ≤ lo) : PgFr w lo' A n ps := by
  obtain ⟨vs, h1, h2, h3, h4⟩ := h
  exact ⟨vs, h1, h2, fun ad e => Nat.le_trans hl (h3 ad e), fun i hi => by obtain ⟨A', c, a, b, d⟩ := h4 i hi; exact ⟨A', c, a, b, fun ad e => Nat.le_trans hl (d ad e)⟩⟩
theorem reads_kept {w w' : World} {size n lo : Nat} {A : Option Addr} {xs : List Value} {r : Option Nat} (h : Reads w w.heap.size size A n xs) (hlo : ∀ ad, A = some ad → lo ≤ ad.block) (hg : w.grownBy w' r) (hr : ∀ g, r = some g → g < lo) : Reads w' w'.heap.size size A n xs := by
  refine ⟨h.1, fun h0 => ?_⟩
  obtain ⟨ad, rfl, h2, h3⟩ := h.2 h0
  refine ⟨ad, rfl, Nat.lt_of_lt_of_le h2 hg.size, fun j u hu => ?_⟩
  refine hg.cell (h3 j u hu) (fun e => ?_)
  have h4 := hr _ e.symm
  rw [block_of_add] at h4
  have := hlo ad rfl
  omega
theorem PgFr.kept {w w' : World} {lo : Nat} {A : Option Addr} {n : Nat} {ps : List (List EntD)} {r : Option Nat} (h : PgFr w lo A n ps) (hg : w.grownBy w' r) (hr : ∀ g, r = some g → g < lo) : PgFr w' lo A n ps := by
  obtain ⟨vs, h1, h2, h3, h4⟩ := h
  exact ⟨vs, reads_kept h1 h3 hg hr, h2, h3, fun i hi => by obtain ⟨A', c, a, b, d⟩ := h4 i hi; exact ⟨A', c, a, reads_kept b d hg hr, d⟩⟩
theorem PgFr.bl {w w' : World} {lo : Nat} {A : Option Addr} {n : Nat} {ps : List (List EntD)} (h : PgFr w lo A n ps) (hb : Below w.heap.size w w') : PgFr w' lo A n ps := by
  obtain ⟨vs, h1, h2, h3, h4⟩ := h
  exact ⟨vs, (h1.below hb).more hb.size, h2, h3, fun i hi => by obtain ⟨A', c, a, b, d⟩ := h4 i hi; exact ⟨A', c, a, (b.below hb).more hb.size, d⟩⟩
theorem OwnP.pages {w : World} {lo : Nat} {L : List PgD} {g c : Nat} (h : OwnP w lo L) (hown : w.ownsRow lo 30 1 (.slice (some ⟨g, 0, none⟩) L.length c) L.length (PV L)) :
    PgFr w lo (some ⟨g, 0, none⟩) L.length (L.map PgD.con) := by
  refine ⟨PV L, Reads.of_own hown, by simp, fun ad e => by injection e with e; subst e; exact (own_some hown).1, fun i hi => ?_⟩
  have hi' : i < L.length := by simpa using hi
  have hp := h.1 _ (List.getElem_mem hi')
  have hr := hp.reads
  refine ⟨some ⟨L[i].g, 0, none⟩, L[i].k, ?_, ?_, fun ad e => by injection e with e; subst e; exact hp.lt.1⟩
  · rw [PV_get _ _ hi']
    have hn : L[i].con.length = L[i].n := by unfold PgD.con; rw [List.length_take]; have := hp.2; omega
    simp only [List.getElem_map, hn]
    rfl
  · simpa using hr

end Go.Proofs.YtbchbmcphbeikaaGreatDoor
