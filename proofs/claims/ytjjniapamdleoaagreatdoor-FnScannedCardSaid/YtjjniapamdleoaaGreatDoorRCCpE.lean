/- Copies of rows of entries, in both packages. -/
import Derived.Test.YtjjniapamdleoaaGreatDoorRCVolQ
import Derived.Test.YtjjniapamdleoaaGreatDoorRCStrs
namespace Go.Proofs.YtjjniapamdleoaaGreatDoor
open Go Go.RowKit
set_option maxHeartbeats 1000000

/-- Another row of entries for an inode. -/
def ptE (xs : List InoD) (k : Nat) (es : List EntD) : List InoD := match xs[k]? with | some x => xs.set k ⟨x.id, x.kd, x.ln, x.s, es⟩ | none => xs
/-- Other links for an inode. -/
def ptL (xs : List InoD) (k : Nat) (ln : Int) : List InoD := match xs[k]? with | some x => xs.set k ⟨x.id, x.kd, ln, x.s, x.es⟩ | none => xs
section
variable {xs : List InoD} {k : Nat} {es : List EntD} {ln : Int} {s : ByteArray}
theorem putE_at (hk : k < xs.length) : ptE xs k es = xs.set k ⟨xs[k].id, xs[k].kd, xs[k].ln, xs[k].s, es⟩ := by unfold ptE; rw [List.getElem?_eq_getElem hk]
theorem putL_at (hk : k < xs.length) : ptL xs k ln = xs.set k ⟨xs[k].id, xs[k].kd, ln, xs[k].s, xs[k].es⟩ := by unfold ptL; rw [List.getElem?_eq_getElem hk]
theorem putE_len : (ptE xs k es).length = xs.length := by unfold ptE; split <;> simp
theorem putL_len : (ptL xs k ln).length = xs.length := by unfold ptL; split <;> simp
theorem putE_ids (hk : k < xs.length) : (ptE xs k es).map (·.id) = xs.map (·.id) := by rw [putE_at hk]; exact ids_set hk rfl
theorem putL_ids (hk : k < xs.length) : (ptL xs k ln).map (·.id) = xs.map (·.id) := by rw [putL_at hk]; exact ids_set hk rfl
theorem putE_plc (hk : k < xs.length) (a : Int) : plc (ptE xs k es) a = plc xs a := plc_ids (putE_ids hk) a
theorem putE_same (hk : k < xs.length) (h : k < (ptE xs k es).length) : (ptE xs k es)[k] = ⟨xs[k].id, xs[k].kd, xs[k].ln, xs[k].s, es⟩ := by simp [putE_at hk]
theorem putE_ne (hk : k < xs.length) {j : Nat} (hj : j ≠ k) (h : j < (ptE xs k es).length) : (ptE xs k es)[j] = xs[j]'(by rw [putE_len] at h; exact h) := by simp [putE_at hk, List.getElem_set_ne (Ne.symm hj)]
theorem putL_same (hk : k < xs.length) (h : k < (ptL xs k ln).length) : (ptL xs k ln)[k] = ⟨xs[k].id, xs[k].kd, ln, xs[k].s, xs[k].es⟩ := by simp [putL_at hk]
end
section
variable {K : Int} {D D' : Int -> Int} {V : VolD} {k : Nat}
theorem QG.putE (h : QG K D V) (hk : k < V.xs.length) (hkd : V.xs[k].kd = 2) {es' : List EntD} (hd : dirOkB es' = true) (hes : ∀ e ∈ es', e.d ≠ 1 /\ ∃ y ∈ V.xs, y.id = e.d) (hD : ∀ a, (cntE es' a : Int) + D a <= cntE V.xs[k].es a + D' a) : QG K D' ⟨V.nx, ptE V.xs k es'⟩ := by
 have hkm : V.xs[k] ∈ V.xs := List.getElem_mem hk
 rw [putE_at hk]
 refine h.set hk (Int.le_refl _) (.inl hkd) hd hes (h.s _ hkm) (h.ln _ hkm).2 fun x _ => ?_
 have := hD x.id
 split <;> omega
theorem QG.kd2 (h : QG K D V) (hk : k < V.xs.length) {j : Nat} (hj : j < V.xs[k].es.length) : V.xs[k].kd = 2 := by
 rcases h.kd _ (List.getElem_mem hk) with h1 | h1
 ·rw [h1.2] at hj; simp at hj
 ·exact h1
theorem QG.add (h : QG K D V) (hk : k < V.xs.length) (hkd : V.xs[k].kd = 2) (s : ByteArray) {i : Int} (h1 : i ≠ 1) (hex : ∃ y ∈ V.xs, y.id = i) : QG K (fun a => D a + oneI a i) ⟨V.nx, ptE V.xs k (addP V.xs[k].es s i).1⟩ := by
 have hkm : V.xs[k] ∈ V.xs := List.getElem_mem hk
 have hd := h.dir _ hkm
 refine h.putE hk hkd (addP_ok hd s i) (fun e he => ?_) fun a => ?_
 ·rcases (addP_cnt hd s i 0).2 e he with h2 | h2
  ·exact h.es _ hkm e h2
  ·rw [h2]; exact ⟨h1, hex⟩
 ·have := (addP_cnt hd s i a).1
  omega
theorem QG.drop (h : QG K D V) (hk : k < V.xs.length) {s : ByteArray} {j : Nat} (hj : j < V.xs[k].es.length) (hf : V.xs[k].es.find? (isN s) = some V.xs[k].es[j]) : QG K (fun a => D a - oneI a V.xs[k].es[j].d) ⟨V.nx, ptE V.xs k (dropP V.xs[k].es s).1⟩ := by
 have hkm : V.xs[k] ∈ V.xs := List.getElem_mem hk
 have hd := h.dir _ hkm
 refine h.putE hk (h.kd2 hk hj) (dropP_ok hd s) (fun e he => h.es _ hkm e ((dropP_cnt hd hj hf 0).2 e he)) fun a => ?_
 have := (dropP_cnt hd hj hf a).1
 omega
theorem QG.putL (h : QG K D V) (hk : k < V.xs.length) {ln' K' : Int} (hK : K <= K') (hl : ln' <= K') : QG K' (fun a => D a + (V.xs[k].ln - ln') * oneI a V.xs[k].id) ⟨V.nx, ptL V.xs k ln'⟩ := by
 have hkm : V.xs[k] ∈ V.xs := List.getElem_mem hk
 rw [putL_at hk]
 refine h.set hk hK (by rcases h.kd _ hkm with h1 | h1; exact .inr h1.2; exact .inl h1) (h.dir _ hkm) (h.es _ hkm) (h.s _ hkm) hl fun x _ => ?_
 unfold oneI
 split <;> simp <;> omega
/-- An inode has one link less; it goes where it has none. -/
def lessV (xs : List InoD) (k : Nat) (a : Int) (ln : Int) : List InoD := if ln = 0 then (ptL xs k ln).filter fun y => y.id != a else ptL xs k ln
theorem QG.less (h : QG K D V) (hk : k < V.xs.length) (h1 : V.xs[k].id ≠ 1) (hes : V.xs[k].es = []) (hD0 : D V.xs[k].id <= -1) (hD : ∀ y ∈ V.xs, y.id ≠ V.xs[k].id -> D y.id <= 0) : QV K ⟨V.nx, lessV V.xs k V.xs[k].id (V.xs[k].ln - 1)⟩ := by
 have hkm : V.xs[k] ∈ V.xs := List.getElem_mem hk
 have h2 := (h.ln _ hkm).2
 have hL := h.putL hk (ln' := V.xs[k].ln - 1) (Int.le_refl K) (by omega)
 have hid : ∀ y ∈ ptL V.xs k (V.xs[k].ln - 1), ∃ z ∈ V.xs, z.id = y.id := fun y hy => by
  have : y.id ∈ (ptL V.xs k (V.xs[k].ln - 1)).map (·.id) := List.mem_map_of_mem hy
  rw [putL_ids hk] at this
  obtain ⟨z, hz, h3⟩ := List.mem_map.1 this
  exact ⟨z, hz, h3⟩
 have hDy : ∀ y ∈ ptL V.xs k (V.xs[k].ln - 1), D y.id + (V.xs[k].ln - (V.xs[k].ln - 1)) * oneI y.id V.xs[k].id <= 0 := fun y hy => by
  obtain ⟨z, hz, h3⟩ := hid y hy
  by_cases he : y.id = V.xs[k].id
  ·rw [he, oneI_self]; omega
  ·rw [oneI_ne he]; have := hD z hz (by rw [h3]; exact he); rw [h3] at this; omega
 unfold lessV
 split
 ·rename_i h0
  have hk' : k < (ptL V.xs k (V.xs[k].ln - 1)).length := by rw [putL_len]; exact hk
  have hsame := putL_same (ln := V.xs[k].ln - 1) hk hk'
  have hm : (ptL V.xs k (V.xs[k].ln - 1))[k] ∈ ptL V.xs k (V.xs[k].ln - 1) := List.getElem_mem hk'
  have hg := QG.gone hL (x := (ptL V.xs k (V.xs[k].ln - 1))[k]) hm (by rw [hsame]; exact h1) (by rw [hsame]; exact hes) (by
   have h3 := (hL.ln _ hm).1
   have h4 := hDy _ hm
   have h5 : (ptL V.xs k (V.xs[k].ln - 1))[k].ln = 0 := by rw [hsame]; exact h0
   have h6 : (linksN (ptL V.xs k (V.xs[k].ln - 1)) (ptL V.xs k (V.xs[k].ln - 1))[k].id : Int) <= 0 := by
    refine Int.le_trans h3 ?_
    rw [h5]
    omega
   omega) (fun y hy _ => hDy y hy)
  have hi : (ptL V.xs k (V.xs[k].ln - 1))[k].id = V.xs[k].id := by rw [hsame]
  rw [hi] at hg
  exact hg
 ·exact hL.weak (Int.le_refl _) hDy
/-! The calls. -/
theorem QV.make (h : QV K V) (hn : V.xs.length < 16) (hm : V.nx < 100000) {kd : Int} (hkd : kd = 1 ∨ kd = 2) (hK : 1 <= K) (hk : k < V.xs.length) (hk2 : V.xs[k].kd = 2) (s : ByteArray) :
  QV K ⟨V.nx + 1, ptE (V.xs ++ [⟨V.nx, kd, 1, ⟨#[]⟩, []⟩]) k (addP V.xs[k].es s V.nx).1⟩ := by
 have h1 := QG.snoc h hn hm hkd hK
 have hk' : k < (V.xs ++ [(⟨V.nx, kd, 1, ⟨#[]⟩, []⟩ : InoD)]).length := by simp; omega
 have he : (V.xs ++ [(⟨V.nx, kd, 1, ⟨#[]⟩, []⟩ : InoD)])[k] = V.xs[k] := List.getElem_append_left hk
 have h2 := h1.add (k := k) hk' (by show (V.xs ++ [(⟨V.nx, kd, 1, ⟨#[]⟩, []⟩ : InoD)])[k].kd = 2; rw [he]; exact hk2) s (i := V.nx) (by have := h.nx; omega) ⟨_, List.mem_append_right _ (List.mem_singleton.2 rfl), rfl⟩
 have h3 := h2.weak (D' := fun _ => 0) (Int.le_refl K) (fun x _ => by show - oneI x.id V.nx + oneI x.id V.nx <= 0; omega)
 have h4 : QG K (fun _ => 0) ⟨V.nx + 1, ptE (V.xs ++ [⟨V.nx, kd, 1, ⟨#[]⟩, []⟩]) k (addP (V.xs ++ [(⟨V.nx, kd, 1, ⟨#[]⟩, []⟩ : InoD)])[k].es s V.nx).1⟩ := h3
 rw [he] at h4
 exact h4
theorem QV.mono (h : QV K V) {K' : Int} (hK : K <= K') : QV K' V := QG.weak h hK fun _ _ => Int.le_refl _
theorem QV.unlink (h : QV K V) (hk : k < V.xs.length) {s : ByteArray} {j : Nat} (hj : j < V.xs[k].es.length) (hf : V.xs[k].es.find? (isN s) = some V.xs[k].es[j]) {m : Nat} (hm : m < V.xs.length) (hx : V.xs[m].id = V.xs[k].es[j].d) (hes : V.xs[m].es = []) :
  QV K ⟨V.nx, lessV (ptE V.xs k (dropP V.xs[k].es s).1) m V.xs[m].id (V.xs[m].ln - 1)⟩ := by
 have h1 := QG.drop h hk hj hf
 have hmk : m ≠ k := by rintro rfl; rw [hes] at hj; simp at hj
 have hm' : m < (ptE V.xs k (dropP V.xs[k].es s).1).length := by rw [putE_len]; exact hm
 have he := putE_ne (es := (dropP V.xs[k].es s).1) hk hmk hm'
 have h2 := h1.less (k := m) hm' (by show (ptE V.xs k (dropP V.xs[k].es s).1)[m].id ≠ 1; rw [he, hx]; exact (h.es _ (List.getElem_mem hk) _ (List.getElem_mem hj)).1) (by show (ptE V.xs k (dropP V.xs[k].es s).1)[m].es = []; rw [he]; exact hes)
  (by show (0 : Int) - oneI (ptE V.xs k (dropP V.xs[k].es s).1)[m].id V.xs[k].es[j].d <= -1; rw [he, hx, oneI_self]; omega) (fun y _ _ => by show (0 : Int) - oneI y.id V.xs[k].es[j].d <= 0; have := (oneI_bd y.id V.xs[k].es[j].d).1; omega)
 have h3 : QV K ⟨V.nx, lessV (ptE V.xs k (dropP V.xs[k].es s).1) m (ptE V.xs k (dropP V.xs[k].es s).1)[m].id ((ptE V.xs k (dropP V.xs[k].es s).1)[m].ln - 1)⟩ := h2
 rw [he] at h3
 exact h3
end

/-- A volume that is small. -/
def SmV (V : VolD) : Prop := V.xs.length <= 17 /\ ∀ x ∈ V.xs, x.es.length <= 13 /\ (∀ e ∈ x.es, e.s.size <= 25) /\ x.s.size <= 25
theorem sumQ_le {α : Type} (f : α -> Nat) (B : Nat) : ∀ (l : List α), (∀ x ∈ l, f x <= B) -> (l.map f).sum <= l.length * B
 | [], _ => by simp
 | a :: l, h => by
  have h1 := h a (List.mem_cons_self ..)
  have h2 := sumQ_le f B l (fun x hx => h x (List.mem_cons_of_mem _ hx))
  simp only [List.map_cons, List.sum_cons, List.length_cons, Nat.add_mul, Nat.one_mul]
  omega
theorem SmV.sz {V : VolD} (h : SmV V) : szV V <= 100000 := by
 have h1 : ∀ x ∈ V.xs, szI x <= 400 := fun x hx => by
  obtain ⟨h2, h3, h4⟩ := h.2 x hx
  have h5 := sumQ_le (fun e : EntD => e.s.size) 25 x.es h3
  have h6 : x.es.length * 25 <= 13 * 25 := Nat.mul_le_mul_right _ h2
  unfold szI szS
  omega
 have h2 := sumQ_le szI 400 V.xs h1
 have h3 : V.xs.length * 400 <= 17 * 400 := Nat.mul_le_mul_right _ h.1
 have h4 := h.1
 unfold szV szIs
 omega
theorem QV.sm {K : Int} {V : VolD} (h : QV K V) : SmV V := by
 refine ⟨by have := h.len; omega, fun x hx => ?_⟩
 have hd := h.dir x hx
 refine ⟨by have := (dirOk_pw.1 hd).1; omega, fun e he => ?_, by have := h.s x hx; omega⟩
 have h1 := dir_names hd e he
 unfold nameOkB at h1
 split at h1
 ·cases h1
 ·simp only [Bool.and_eq_true] at h1
  have := inI_true.1 h1.1.1.1
  omega

theorem own_nilC (w : World) (base size : Nat) (e : TypeId) : w.ownsRow base e size (.slice none 0 0) 0 [] := ⟨by simp, .inl ⟨rfl, rfl⟩⟩
theorem copyEnts_impl (A : Option Addr) (n c : Nat) (ds : List EntD) (hn : n <= 100000) (w : World) (hr : Reads w w.heap.size 4 A n (ES ds)) :
  Calls Tryz.prog 145 #[.slice A n c] w fun e w' => ∃ v, e = .returned v /\ w'.ownsRow w.heap.size 38 4 v n (ES ds) /\ Below w.heap.size w w' := by
 have Hr := Lib.hid hr
 clear hr
 go_enter Tryz.func145, Tryz.ntmps145
 go_wp2_with (at_builtin; refine wpList_app _ rfl _ _ _ rfl Tryz.el_ent (own_nilC _ w.heap.size 4 _) rfl Hr.out rfl (ES_cells _) (by unfold maxLen; omega) (by omega) (Nat.le_refl _) ?_; intro v1 w1 own1 _ _ hb1; rw [Nat.zero_add, List.nil_append] at own1; have Own1 := Lib.hid own1; clear own1)
 go_ret
 exact ⟨_, rfl, Own1.out, hb1⟩

theorem l5Copy_any (A : Option Addr) (n c : Nat) (ds : List EntD) (hn : n <= 100000) (w : World) (hr : Reads w w.heap.size 4 A n (ES ds)) :
  Calls Tryz.prog 118 #[.slice A n c] w fun e w' => ∃ v, e = .returned v /\ w'.ownsRow w.heap.size 38 4 v n (ES ds) /\ Below w.heap.size w w' := by
 have Hr := Lib.hid hr
 clear hr
 have hlit := World.ownsRow_lit (e := 38) (size := 4) w #[] 0 (Nat.le_refl _) (by unfold maxLen; omega) rfl
 go_enter Tryz.func118, Tryz.ntmps118
 go_wp2_with (at_builtin; refine wpList_app _ rfl _ _ _ rfl Tryz.el_ent hlit rfl ((Hr.out.below (belA (bel0 w) _)).more (Nat.le_succ _)) rfl (ES_cells _) (by unfold maxLen; omega) (by omega) (by simp) ?_; intro v1 w1 own1 _ _ hb1; rw [Nat.zero_add] at own1; have Own1 := Lib.hid own1; clear own1)
 go_ret
 exact ⟨_, rfl, Own1.out, (belA (bel0 w) _).trans hb1⟩

end Go.Proofs.YtjjniapamdleoaaGreatDoor
