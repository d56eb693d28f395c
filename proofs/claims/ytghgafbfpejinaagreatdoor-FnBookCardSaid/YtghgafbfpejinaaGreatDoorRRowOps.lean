/- Rows of a call's own: longer within their room, cut, copied into, cleared. -/
import Derived.Test.YtghgafbfpejinaaGreatDoorRBase
import Derived.Laws.CopyRow
import Derived.Laws.CopyOwn
import Derived.Lib.Overlaps
import Derived.Lib.AppendZerosOnto
namespace Go.Proofs.YtghgafbfpejinaaGreatDoor
open Go Go.RowKit

section
variable {w : World} {base g n c size : Nat} {e : TypeId} {xs : List Value}
theorem own_heap (h : w.ownsRow base e size (.slice (some ⟨g, 0, none⟩) n c) n xs) : ∃ cur : Array Value, base ≤ g ∧ w.heap[g]? = some (.cells cur e (0, 0)) ∧ n ≤ c ∧ c ≤ maxLen ∧ cur.size = c * size ∧ cur.toList.take (n * size) = xs := by
 obtain ⟨_, h | ⟨g', cap, cur, hv, hb, hh, h1, h2, h3, h4⟩⟩ := h
 ·obtain ⟨h, _⟩ := h; cases h
 ·simp only [Value.slice.injEq, Option.some.injEq, Addr.mk.injEq, and_true, true_and] at hv
  obtain ⟨rfl, rfl⟩ := hv
  exact ⟨cur, hb, hh, h1, h2, h3, h4⟩
theorem own_of_heap {cur : Array Value} (hb : base ≤ g) (hh : w.heap[g]? = some (.cells cur e (0, 0))) (h1 : n ≤ c) (h2 : c ≤ maxLen) (h3 : cur.size = c * size) (h4 : cur.toList.take (n * size) = xs) : w.ownsRow base e size (.slice (some ⟨g, 0, none⟩) n c) n xs := by
 refine ⟨?_, .inr ⟨g, c, cur, rfl, hb, hh, h1, h2, h3, h4⟩⟩
 rw [← h4, List.length_take, Array.length_toList, h3]
 exact Nat.min_eq_left (Nat.mul_le_mul_right _ h1)
theorem own_wide (h : w.ownsRow base e size (.slice (some ⟨g, 0, none⟩) n c) n xs) (m : Nat) (hm : n + m ≤ c) : ∃ js : List Value, js.length = m * size ∧ w.ownsRow base e size (.slice (some ⟨g, 0, none⟩) (n + m) c) (n + m) (xs ++ js) := by
 obtain ⟨cur, hb, hh, h1, h2, h3, h4⟩ := own_heap h
 have hl : (n + m) * size ≤ c * size := Nat.mul_le_mul_right _ hm
 rw [Nat.add_mul] at hl
 refine ⟨(cur.toList.drop (n * size)).take (m * size), ?_, own_of_heap hb hh hm h2 h3 ?_⟩
 ·rw [List.length_take, List.length_drop, Array.length_toList, h3]; omega
 ·rw [Nat.add_mul, List.take_add, h4]
theorem own_cut (h : w.ownsRow base e size (.slice (some ⟨g, 0, none⟩) n c) n xs) (m : Nat) (hm : m ≤ n) : w.ownsRow base e size (.slice (some ⟨g, 0, none⟩) m c) m (xs.take (m * size)) := by
 obtain ⟨cur, hb, hh, h1, h2, h3, h4⟩ := own_heap h
 refine own_of_heap hb hh (by omega) h2 h3 ?_
 have hl : m * size ≤ n * size := Nat.mul_le_mul_right _ hm
 rw [← h4, List.take_take, Nat.min_eq_left hl]
theorem own_rowset (h : w.ownsRow base e size (.slice (some ⟨g, 0, none⟩) n c) n xs) {cur : Array Value} (hh : w.heap[g]? = some (.cells cur e (0, 0))) (o : Nat) (cs : List Value) (hf : o + cs.length ≤ n * size) :
  (w.setRow g (cur.toList.take o ++ cs ++ cur.toList.drop (o + cs.length)).toArray).ownsRow base e size (.slice (some ⟨g, 0, none⟩) n c) n (xs.take o ++ cs ++ xs.drop (o + cs.length)) := by
 obtain ⟨cur', hb, hh', h1, h2, h3, h4⟩ := own_heap h
 rw [hh] at hh'
 obtain rfl : cur = cur' := by injection hh' with h'; injection h'
 have hl : n * size ≤ c * size := Nat.mul_le_mul_right _ h1
 have hcl : cur.toList.length = c * size := by rw [Array.length_toList, h3]
 refine own_of_heap hb (setRow_heap w g cur _ e _ hh) h1 h2 ?_ ?_
 ·simp; omega
 ·rw [List.append_assoc, List.take_append, List.take_append, List.length_take, ← h4, List.take_take, List.drop_take, List.take_take, List.append_assoc]
  rw [show min o (n * size) = o by omega, show min (n * size) o = o by omega, hcl, show min o (c * size) = o by omega]
  rw [List.take_of_length_le (l := cs) (by omega)]
  rw [show n * size - o - cs.length = n * size - (o + cs.length) by omega]
theorem grown_setRow (w : World) (g : Nat) (X : Array Value) : w.grownBy (w.setRow g X) (some g) :=
 ⟨rfl, rfl, rfl, by simp [World.setRow], fun k hk hne => setRow_other w g k X (fun e => hne (by rw [e]))⟩
theorem own_shape (h : w.ownsRow base e size (.slice (some ⟨g, 0, none⟩) n c) n xs) : w.shape? g = some (e, c * size) := by
 obtain ⟨cur, _, hh, _, _, h3, _⟩ := own_heap h
 unfold World.shape?
 rw [hh]
 simp [h3]
end

section
variable {P : Program}
theorem run_copyN (w : World) (dT sT ty elem : TypeId) (size : Nat) (g o dLen dCap : Nat) (a : Addr) (sLen sCap : Nat) (cur : Array Value) (t : TypeId) (cs : List Value) (k : Nat)
  (hu : P.underlying dT = some (.slice elem)) (hs : (P.info? elem).map (·.size) = some size)
  (hg : w.heap[g]? = some (.cells cur t (0, 0))) (hk : Nat.min sLen dLen = k) (hn : cs.length = k * size)
  (hsrc : ∀ j v, cs[j]? = some v → w.cell? (a.add j) = some v) (hfit : o + cs.length ≤ cur.size) (h1 : ∀ v ∈ cs, v.oneCell' = true) :
  (Builtin.copy_ #[dT, sT] ty #[.slice (some ⟨g, o, none⟩) dLen dCap, .slice (some a) sLen sCap]).run P w =
   .ok (goInt k) (w.setRow g (cur.toList.take o ++ cs ++ cur.toList.drop (o + cs.length)).toArray) := by
 have hl := run_loadCells_list (P := P) w a cs hsrc
 have hst := run_storeCells_at P g o t cs 0 cur w hg (by simpa using hfit) h1
 cases hq : P.info? elem with
 | none => simp [hq] at hs
 | some i =>
  have hi : i.size = size := by simpa [hq] using hs
  rw [hn] at hl hst
  simp [Builtin.copy_, run_underlying hu, Builtin.lenOf, Builtin.firstCells, sizeOf, typeInfo, hq, hi, hk, hn, hl, hst]

/-- A copy into a row of the call's own. -/
theorem run_copy_own {w : World} (dT sT : TypeId) {base g n c size : Nat} {e : TypeId} {xs : List Value} (hu : P.underlying dT = some (.slice e)) (hs : (P.info? e).map (·.size) = some size)
  (hown : w.ownsRow base e size (.slice (some ⟨g, 0, none⟩) n c) n xs) (off dLen : Nat) (ad : Addr) (sLen : Nat)
  (cs : List Value) (k : Nat) (hk : Nat.min sLen dLen = k) (hn : cs.length = k * size) (hsrc : ∀ j v, cs[j]? = some v → w.cell? (ad.add j) = some v) (hfit : off + cs.length ≤ n * size) (h1 : ∀ v ∈ cs, v.oneCell' = true) :
  ∃ w', (∀ ty dCap sCap, (Builtin.copy_ #[dT, sT] ty #[.slice (some ⟨g, off, none⟩) dLen dCap, .slice (some ad) sLen sCap]).run P w = .ok (goInt k) w') ∧
   w'.ownsRow base e size (.slice (some ⟨g, 0, none⟩) n c) n (xs.take off ++ cs ++ xs.drop (off + cs.length)) ∧ w.grownBy w' (some g) := by
 obtain ⟨cur, hb, hh, c1, c2, c3, c4⟩ := own_heap hown
 have hl : n * size ≤ c * size := Nat.mul_le_mul_right _ c1
 exact ⟨_, fun ty dCap sCap => run_copyN (P := P) w dT sT ty e size g off dLen dCap ad sLen sCap cur e cs k hu hs hh hk hn hsrc (by omega) h1, own_rowset hown hh off cs hfit, grown_setRow _ _ _⟩
/-- .. as one step of a region that draws, its run known. -/
theorem step_copyR {ops : Array Oper} {o : Oper} {a : Act} {w : World} {K : Act → World → Prop} {Q : Exit → Act → World → Prop} {E : Prop}
  (hg : o.guard = none) (d x : Operand) (dT sT : TypeId) (hop : o.op = Op.call { callee := Callee.builtin Builtin.copy, args := #[d, x], argTypes := #[dT, sT] })
  (v u : Value) (hd : a.eval d = v) (hx : a.eval x = u) {v' : Value} {w' : World} (hr : (Builtin.copy_ #[dT, sT] o.type #[v, u]).run P w = .ok v' w') (hK : K (a.put o.dst v') w') :
  if Region.wanted o (yielded ops a.tmps) = true then Oper.wp P o a w K Q else E := by
 have hw : Region.wanted o (yielded ops a.tmps) = true := by simp [Region.wanted, hg]
 rw [if_pos hw]
 unfold Oper.wp
 simp [execOp, hop, resolve, invoke, builtin, hd, hx, hr, Result.andThen]
 exact hK

theorem wpList_appR {w : World} {ops : Array Oper} {rest : List Oper} {o : Oper} {a : Act} {Q : Exit → Act → World → Prop} (hgd : o.guard = none) (s x : Operand) (t tn : TypeId)
  (ho : o.op = .call { callee := .builtin .append, args := #[s, x], argTypes := #[t, tn] }) (v u : Value) (hs : a.eval s = v) (hx : a.eval x = u) {v' : Value} {w' : World} (hr : (Builtin.append_ #[t, tn] o.type #[v, u]).run P w = .ok v' w')
  (h : wpList P ops Q rest (a.put o.dst v') w') : wpList P ops Q (o :: rest) a w := by
 refine wpList_plain hgd fun Kk hKk => ?_
 unfold Oper.wp
 simp only [execOp, ho, resolve, invoke, builtin, Sem.run_bind, Sem.run_pure, Result.andThen_ok, List.map_toArray, List.map_cons, List.map_nil, hs, hx, hr]
 exact hKk _ _ h
theorem run_clearN (w : World) (t e ty : TypeId) (z : Value) (ht : P.underlying t = some (.slice e)) (hv : ∀ w, (zeroValue e).run P w = .ok z w) (g o m cp : Nat) (hm : 0 < m) (cur : Array Value) (t' : TypeId) (hg : w.heap[g]? = some (.cells cur t' (0, 0)))
  (hfit : o + m * z.cells.size ≤ cur.size) (h1 : ∀ v ∈ (Builtin.zeroCells z.cells m).toList, v.oneCell' = true) :
  (Builtin.clear_ #[t] ty #[.slice (some ⟨g, o, none⟩) m cp]).run P w = .ok (.tuple #[]) (w.setRow g (cur.toList.take o ++ (Builtin.zeroCells z.cells m).toList ++ cur.toList.drop (o + (Builtin.zeroCells z.cells m).toList.length)).toArray) := by
 have hst := run_storeCells_at P g o t' (Builtin.zeroCells z.cells m).toList 0 cur w hg (by simp [Builtin.zeroCells]; omega) h1
 simp only [Nat.add_zero] at hst
 obtain ⟨j, rfl⟩ : ∃ j, m = j + 1 := ⟨m - 1, by omega⟩
 simp [Builtin.clear_, run_underlying ht, hv, hst]
theorem run_clear_own {w : World} (t : TypeId) {base g n c size : Nat} {e : TypeId} {xs : List Value} (z : Value) (hu : P.underlying t = some (.slice e)) (hv : ∀ w, (zeroValue e).run P w = .ok z w) (hsz : z.cells.size = size)
  (h1 : ∀ m, ∀ v ∈ (Builtin.zeroCells z.cells m).toList, v.oneCell' = true)
  (hown : w.ownsRow base e size (.slice (some ⟨g, 0, none⟩) n c) n xs) (k m : Nat) (hm : 0 < m) (hkm : k + m ≤ n) :
  ∃ w', (∀ ty cp, (Builtin.clear_ #[t] ty #[.slice (some ⟨g, k * size, none⟩) m cp]).run P w = .ok (.tuple #[]) w') ∧ w'.ownsRow base e size (.slice (some ⟨g, 0, none⟩) k c) k (xs.take (k * size)) ∧ w.grownBy w' (some g) := by
 subst hsz
 obtain ⟨cur, hb, hh, c1, c2, c3, c4⟩ := own_heap hown
 have hl : n * z.cells.size ≤ c * z.cells.size := Nat.mul_le_mul_right _ c1
 have hl2 : (k + m) * z.cells.size ≤ n * z.cells.size := Nat.mul_le_mul_right _ hkm
 rw [Nat.add_mul] at hl2
 have hzl : (Builtin.zeroCells z.cells m).toList.length = m * z.cells.size := by simp [Builtin.zeroCells]
 have ho' := own_cut (own_rowset hown hh (k * z.cells.size) (Builtin.zeroCells z.cells m).toList (by omega)) k (by omega)
 have hx : xs.length = n * z.cells.size := hown.1
 rw [List.append_assoc (xs.take _), List.take_append_of_le_length (by rw [List.length_take]; omega), List.take_take, Nat.min_self] at ho'
 exact ⟨_, fun ty cp => run_clearN (P := P) w t e ty z hu hv g (k * z.cells.size) m cp hm cur e hh (by omega) (h1 m), ho', grown_setRow _ _ _⟩
/-- append of a make onto a cut row of the call's own that has no room: a new row. -/
theorem run_app_zeros {w : World} (t tn : TypeId) {e : TypeId} {z : Value} {size bytes : Nat} (hE : ElemOk P t e z size bytes) {kn : IntKind} (htn : P.underlying tn = some (.int kn))
  {base g n c : Nat} {xs : List Value} (hown : w.ownsRow base e size (.slice (some ⟨g, 0, none⟩) n c) n xs) (i : Nat) (hi : i ≤ n) (K : Int) (k N : Nat) (hK : K = (k : Int)) (h0 : 0 < k) (hN : i + k = N)
  (hg : c < N) (h63 : N ≤ 1000000000) (hbytes : N * bytes ≤ 140737488355328) :
  ∃ c' w' zs, (∀ ty, (Builtin.append_ #[t, tn] ty #[.slice (some ⟨g, 0, none⟩) i c, .int .i64 K]).run P w = .ok (.slice (some ⟨w.heap.size, 0, none⟩) N c') w') ∧ zs.length = k * size ∧
   w'.ownsRow w.heap.size e size (.slice (some ⟨w.heap.size, 0, none⟩) N c') N (xs.take (i * size) ++ zs) ∧ N ≤ c' ∧ c' ≤ 9223372036854775807 ∧ Below w.heap.size w w' := by
 subst hK hN
 obtain ⟨j, hj, hz, hsize, hby⟩ := info_parts hE.hi
 obtain ⟨cur, hb, hh, c1, c2, c3, c4⟩ := own_heap hown
 have hxl : xs.length = n * size := hown.1
 have hil : i * size ≤ n * size := Nat.mul_le_mul_right _ hi
 have hold : (Builtin.firstCells j.size i (.slice (some ⟨g, 0, none⟩) i c)).run P w.drew = .ok (xs.take (i * size)).toArray w.drew := by
  rw [hsize]
  refine run_firstCells_some w.drew size i ⟨g, 0, none⟩ i c (xs.take (i * size)) (by rw [List.length_take]; omega) fun q v hq => ?_
  have ha : (⟨g, 0, none⟩ : Addr).add q = ⟨g, q, none⟩ := by unfold Addr.add; split <;> simp_all
  rw [ha]
  rw [List.getElem?_take] at hq
  split at hq
  ·rename_i hlt
   exact (hown.cellAt q (by omega)).trans hq
  ·cases hq
 have hrun := fun ty => Lib.run_append_grow_zeros (P := P) w t tn ty e j z .i64 kn hE.ht htn hj hz (some ⟨g, 0, none⟩) i c (xs.take (i * size)) hold k h0 (by have := hE.hsz; omega) hg (by omega)
  (by rw [hby]; have : k * bytes ≤ (i + k) * bytes := Nat.mul_le_mul_right _ (by omega); omega) (by rw [hby]; exact growslice_fits hg hbytes)
 obtain ⟨G, hG⟩ : ∃ G, G = grownCap w (i + k) c e := ⟨_, rfl⟩
 have hG1 : i + k ≤ G := by rw [hG]; exact grownCap_ge w _ _ _
 have hG2 : G ≤ maxLen := by rw [hG]; exact grownCap_le_maxLen w _ _ _ (by unfold maxLen; omega)
 rw [← hG] at hrun
 have hzl : ∀ m, (Builtin.zeroCells z.cells m).toList.length = m * size := fun m => by simp [Builtin.zeroCells, hE.hzs]
 have hown' : (w.drew.alloc (.cells ((xs.take (i * size)).toArray ++ Builtin.zeroCells z.cells k ++ Builtin.zeroCells z.cells (G - (i + k))) e)).ownsRow w.heap.size e size (.slice (some ⟨w.heap.size, 0, none⟩) (i + k) G) (i + k) (xs.take (i * size) ++ (Builtin.zeroCells z.cells k).toList) := by
  refine own_of_heap (Nat.le_refl _) (heap_alloc_new w.drew _) hG1 hG2 ?_ ?_
  ·have h1 := hzl k
   have h2 := hzl (G - (i + k))
   rw [Array.length_toList] at h1 h2
   simp only [Array.size_append, List.size_toArray, List.length_take, h1, h2]
   rw [show G * size = (i + k + (G - (i + k))) * size by congr 1; omega, Nat.add_mul, Nat.add_mul]
   omega
  ·simp only [Array.toList_append]
   refine List.take_left' ?_
   rw [List.length_append, hzl, List.length_take, Nat.add_mul]
   omega
 exact ⟨G, _, _, hrun, hzl k, hown', hG1, by unfold maxLen at hG2; omega, (bel0 w).drew.alloc (Nat.le_refl _) _⟩
theorem reads_blk {w : World} {g : Nat} {t : TypeId} {cs : Array Value} (h : Blk w g t cs) (size m : Nat) (hs : cs.size = m * size) : Reads w w.heap.size size (some ⟨g, 0, none⟩) m cs.toList := by
 refine ⟨by simpa using hs, fun _ => ⟨_, rfl, h.lt, fun j u hu => ?_⟩⟩
 have ha : (⟨g, 0, none⟩ : Addr).add j = ⟨g, j, none⟩ := by unfold Addr.add; split <;> simp_all
 rw [ha, h.cell]
 simpa using hu
end

end Go.Proofs.YtghgafbfpejinaaGreatDoor
