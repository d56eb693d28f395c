/- What pages are of which one has one entry: plain Lean, and what the walk reads of a page. -/
import Derived.Test.YtbchbmcphbeikaaGreatDoorCpPg
namespace Go.Proofs.YtbchbmcphbeikaaGreatDoor
open Go Go.RowKit

section
variable {P : Program} (w : World)
/-- append at a step of a drawn region. -/
theorem step_app {ops : Array Oper} {o : Oper} {a : Act} {K : Act → World → Prop} {Q : Exit → Act → World → Prop} {E : Prop} (hgd : o.guard = none) (s x : Operand) (t : TypeId)
    (ho : o.op = .call { callee := .builtin .append, args := #[s, x], argTypes := #[t, t] })
    {e : TypeId} {z : Value} {size bytes : Nat} (hE : ElemOk P t e z size bytes)
    {base : Nat} {v : Value} {n : Nat} {xs : List Value} (hown : w.ownsRow base e size v n xs) (hs : a.eval s = v)
    {B : Nat} {A : Option Addr} {m c : Nat} {news : List Value} (hr : Reads w B size A m news) (hx : a.eval x = .slice A m c) (h1 : ∀ u ∈ news, u.oneCell' = true)
    (h63 : n + m ≤ maxLen) (hbytes : (n + m) * bytes ≤ 140737488355328) (hbase : base ≤ w.heap.size)
    (h : ∀ v' w', w'.ownsRow base e size v' (n + m) (xs ++ news) → w.grownBy w' v.ownBlock → (v'.ownBlock = v.ownBlock ∨ v'.ownBlock = some w.heap.size) → Below base w w' → K (a.put o.dst v') w') :
    if Region.wanted o (yielded ops a.tmps) = true then Oper.wp P o a w K Q else E := by
  obtain ⟨i, hi, hz, hsize, hby⟩ := info_parts hE.hi
  exact step_append_any w hgd s x t ho base e i z size bytes hE.ht hi hz hsize hby hE.hzs hE.hsz v n xs hs hown B A m c news hx hr h1 h63 hbytes hbase fun v' w' h2 h3 h4 => h v' w' h2 h3 h4 (below_grownBy hown h3 hbase)
end

/-- Pages of which the one at a place has one entry, mended. -/
def mendP (qs : List (List EntD)) (k : Nat) : List (List EntD) :=
  if k + 1 < qs.length ∧ 2 < (qs.getD (k + 1) []).length then (qs.set k (qs.getD k [] ++ (qs.getD (k + 1) []).take 1)).set (k + 1) ((qs.getD (k + 1) []).drop 1)
  else if 0 < k ∧ 2 < (qs.getD (k - 1) []).length then (qs.set k ((qs.getD (k - 1) []).drop ((qs.getD (k - 1) []).length - 1) ++ qs.getD k [])).set (k - 1) ((qs.getD (k - 1) []).take ((qs.getD (k - 1) []).length - 1))
  else if k + 1 < qs.length then (qs.set k (qs.getD k [] ++ qs.getD (k + 1) [])).take (k + 1) ++ (qs.set k (qs.getD k [] ++ qs.getD (k + 1) [])).drop (k + 2)
  else (qs.set (k - 1) (qs.getD (k - 1) [] ++ qs.getD k [])).take k ++ (qs.set (k - 1) (qs.getD (k - 1) [] ++ qs.getD k [])).drop (k + 1)
/-- What mended leaves. -/
def MendPost (w : World) (lo : Nat) (qs : List (List EntD)) (k : Nat) (r : Ending) (w' : World) : Prop :=
  ∃ A m c, r = .returned (.slice A m c) ∧ PgFr w' lo A m (mendP qs k) ∧ Below lo w w'
/-- What is known of a page. -/
theorem pgf {w : World} {lo base g0 m c0 k : Nat} {L : List PgD} (HO : OwnP w lo L) (HY : w.ownsRow base 30 1 (.slice (some ⟨g0, 0, none⟩) m c0) m (PV L)) (hf : ∀ p ∈ L, full p) (hk : k < L.length) :
    ∃ p, L[k] = p ∧ p ∈ L ∧ OwnD w lo p ∧ p.val = .slice (some ⟨p.g, 0, none⟩) p.xs.length p.c ∧ w.cell? ⟨g0, k, none⟩ = some (.slice (some ⟨p.g, 0, none⟩) p.xs.length p.c) ∧ p.con = p.xs ∧ (some g0 : Option Nat) ≠ some p.g := by
  have hp := HO.1 _ (List.getElem_mem hk)
  have hff := hf _ (List.getElem_mem hk)
  have hv : L[k].val = .slice (some ⟨L[k].g, 0, none⟩) L[k].xs.length L[k].c := by unfold PgD.val; rw [hff.1, hff.2]
  have hm : L.length = m := by have := HY.1; rw [PV_length] at this; omega
  refine ⟨L[k], rfl, List.getElem_mem hk, hp, hv, ?_, full_con hff, fun e => pg_ne HY hp (by injection e with e; exact e.symm)⟩
  have := HY.cellAt k (by omega)
  rw [PV_get L k hk, hv] at this
  exact this
theorem con_at {L : List PgD} (hf : ∀ p ∈ L, full p) {k : Nat} (hk : k < L.length) {p : PgD} (h : L[k] = p) : (L.map PgD.con).getD k [] = p.xs := by
  have : (L.map PgD.con).getD k [] = L[k].con := by simp [List.getD, hk]
  rw [this, full_con (hf _ (List.getElem_mem hk)), h]
theorem cellA {w : World} {a : Addr} {u : Value} {o : Obj} (h : w.cell? a = some u) : (w.drew.alloc o).cell? a = some u := (World.cell?_alloc_lt w.drew o a (World.block_lt_of_cell? w a h)).trans h
theorem cellS {w : World} {p a : Addr} {u v : Value} (h : w.cell? a = some u) (hne : p ≠ a) : (w.setCell p v).cell? a = some u := by
  rw [World.cell?_setCell_other w p a v hne]; exact h
theorem ES_one (e : EntD) : ES [e] = [.int .i64 e.h, .int .i64 e.i, .string e.s, .int .i64 e.d] := rfl
theorem pg_apart {w : World} {lo : Nat} {L : List PgD} (HO : OwnP w lo L) {i j : Nat} (hi : i < L.length) (hj : j < L.length) (hne : i ≠ j) : L[i].g ≠ L[j].g := by
  have hp := List.pairwise_iff_getElem.1 HO.2
  rcases Nat.lt_or_ge i j with h | h
  · exact hp i j hi hj h
  · exact fun e => hp j i hj hi (by omega) e.symm

end Go.Proofs.YtbchbmcphbeikaaGreatDoor
