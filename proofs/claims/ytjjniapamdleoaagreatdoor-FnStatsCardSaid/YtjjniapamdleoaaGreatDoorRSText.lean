/- The text of an inode: the program's walk. -/
import Derived.Test.YtjjniapamdleoaaGreatDoorRSDeep
namespace Go.Proofs.YtjjniapamdleoaaGreatDoor
open Go Go.RowKit

def sep : ByteArray := ⟨#[47]⟩
theorem sep_size : sep.size = 1 := rfl
def tpick (best t : ByteArray) : ByteArray := if best.size = 0 ∨ Op.bytesLess t.toList best.toList = true then t else best
/-- The best text, of the first so many entries of an inode with a text of its own. -/
def textE (T : ByteArray) (a : Int) (es : List EntD) (best : ByteArray) : Nat -> ByteArray
 | 0 => best
 | k + 1 => match es[k]? with | none => textE T a es best k | some e => if e.d = a then tpick (textE T a es best k) (T ++ sep ++ e.s) else textE T a es best k
def textI (xs : List InoD) (T : Int -> ByteArray) (a : Int) : Nat -> ByteArray
 | 0 => ⟨#[]⟩
 | k + 1 => match xs[k]? with | none => textI xs T a k | some x => textE (T x.id) a x.es (textI xs T a k) x.es.length
theorem textE_yes {T best : ByteArray} {a : Int} {es : List EntD} {k : Nat} (hk : k < es.length) (h : es[k].d = a) : textE T a es best (k + 1) = tpick (textE T a es best k) (T ++ sep ++ es[k].s) := by
 rw [textE, List.getElem?_eq_getElem hk]; simp [h]
theorem textE_no {T best : ByteArray} {a : Int} {es : List EntD} {k : Nat} (hk : k < es.length) (h : es[k].d ≠ a) : textE T a es best (k + 1) = textE T a es best k := by
 rw [textE, List.getElem?_eq_getElem hk]; simp [h]
theorem textI_succ {xs : List InoD} {T : Int -> ByteArray} {a : Int} {k : Nat} (hk : k < xs.length) : textI xs T a (k + 1) = textE (T xs[k].id) a xs[k].es (textI xs T a k) xs[k].es.length := by
 rw [textI, List.getElem?_eq_getElem hk]
theorem tpick_size (best t : ByteArray) (m : Nat) (h1 : best.size <= m) (h2 : t.size <= m) : (tpick best t).size <= m := by unfold tpick; split <;> assumption
theorem textE_size {T best : ByteArray} {a : Int} {es : List EntD} (hT : T.size <= 40000000) (hb : best.size <= 50000000) (hz : ∀ e ∈ es, e.s.size <= 2000000) : ∀ k, (textE T a es best k).size <= 50000000
 | 0 => hb
 | k + 1 => by
  have ih := textE_size (a := a) hT hb hz k
  rw [textE]
  split
  ·exact ih
  ·rename_i e he
   have := hz e (List.mem_of_getElem? he)
   split
   ·exact tpick_size _ _ _ ih (by rw [ByteArray.size_append, ByteArray.size_append, sep_size]; omega)
   ·exact ih
theorem textI_size {xs : List InoD} {T : Int -> ByteArray} {a : Int} (hT : ∀ i, (T i).size <= 40000000) (hz : ∀ x ∈ xs, ∀ e ∈ x.es, e.s.size <= 2000000) : ∀ k, (textI xs T a k).size <= 50000000
 | 0 => by show 0 <= _; omega
 | k + 1 => by
  have ih := textI_size (a := a) hT hz k
  rw [textI]
  split
  ·exact ih
  ·rename_i x hx
   exact textE_size (hT _) ih (hz x (List.mem_of_getElem? hx)) _
/-- The best text, over those that have an id. -/
def foldT (T : Int -> ByteArray) (l : List (Int × ByteArray)) (best : ByteArray) : ByteArray := l.foldl (fun b p => tpick b (T p.1 ++ sep ++ p.2)) best
theorem textE_fold {T : Int -> ByteArray} {i a : Int} {es : List EntD} {best : ByteArray} : ∀ k, k <= es.length -> textE (T i) a es best k = foldT T (((es.take k).filter fun e => e.d == a).map fun e => (i, e.s)) best
 | 0, _ => rfl
 | k + 1, hk => by
  have hk' : k < es.length := by omega
  have ih := textE_fold (T := T) (i := i) (a := a) (es := es) (best := best) k (by omega)
  rw [List.take_succ_eq_append_getElem hk', List.filter_append, List.map_append]
  unfold foldT at ih ⊢
  rw [List.foldl_append, <- ih]
  by_cases h : es[k].d = a
  ·rw [textE_yes hk' h]; simp [h]
  ·rw [textE_no hk' h]; simp [h]
theorem textI_fold {xs : List InoD} {T : Int -> ByteArray} {a : Int} : ∀ k, k <= xs.length -> textI xs T a k = foldT T (pairs (xs.take k) a) ⟨#[]⟩
 | 0, _ => rfl
 | k + 1, hk => by
  have hk' : k < xs.length := by omega
  have ih := textI_fold (T := T) (a := a) (xs := xs) k (by omega)
  rw [textI_succ hk', textE_fold _ (Nat.le_refl _), ih, List.take_succ_eq_append_getElem hk', List.take_length]
  unfold pairs foldT
  rw [List.flatMap_append, List.foldl_append]
  simp
theorem textI_all (xs : List InoD) (T : Int -> ByteArray) (a : Int) : textI xs T a xs.length = foldT T (pairs xs a) ⟨#[]⟩ := by rw [textI_fold _ (Nat.le_refl _), List.take_length]
theorem tpick_some {best t : ByteArray} (ht : 0 < t.size) : (tpick best t).size ≠ 0 := by
 unfold tpick; split
 ·omega
 ·rename_i h; exact fun h0 => h (.inl h0)
theorem foldT_some {T : Int -> ByteArray} : ∀ (l : List (Int × ByteArray)) (best : ByteArray), (best.size ≠ 0 ∨ l ≠ []) -> (foldT T l best).size ≠ 0
 | [], best, h => by
  rcases h with h | h
  ·exact h
  ·exact absurd rfl h
 | p :: l, best, _ => foldT_some l _ (.inl (tpick_some (by rw [ByteArray.size_append, ByteArray.size_append, sep_size]; omega)))
/-- The text of a directory, held to a bound. -/
noncomputable def txtT (xs : List InoD) (i : Int) : ByteArray := if (txt xs i).size <= 40000000 then txt xs i else ⟨#[]⟩
theorem txtT_bd (xs : List InoD) (i : Int) : (txtT xs i).size <= 40000000 := by
 unfold txtT; split
 ·assumption
 ·show 0 <= _; omega
theorem pth_size {xs : List InoD} (hzs : ∀ x ∈ xs, ∀ e ∈ x.es, e.s.size <= 2000000) {a : Int} {n : Nat} {t : ByteArray} (h : Pth xs a n t) : t.size <= n * 2000001 := by
 induction h with
 | root => show 0 <= _; omega
 | @step x e n t hx he _ _ ih =>
  have := hzs x hx e he
  rw [ByteArray.size_append, ByteArray.size_append, str_size]
  simp only [List.length_singleton]
  omega
theorem txtT_dir {nx : Int} {xs : List InoD} (h : VolP nx xs) (hzs : ∀ x ∈ xs, ∀ e ∈ x.es, e.s.size <= 2000000) {a : Int} (hd : IsDirI xs a) : txtT xs a = txt xs a := by
 obtain ⟨y, hy, h1, h2⟩ := hd
 obtain ⟨n, t, hp⟩ := h.pth hy
 rw [h1] at hp
 have hd : IsDirI xs a := ⟨y, hy, h1, h2⟩
 have h3 := pth_size hzs hp
 have h4 := hp.short h hd
 unfold txtT
 rw [txt_is h hp hd, if_pos (by omega)]
/-- Above a directory stands one alone, with one name. -/
theorem up_text {nx : Int} {xs : List InoD} (h : VolP nx xs) {a : Int} (ha : a ≠ 1) (hd : IsDirI xs a) : ∃ b, IsDirI xs b /\ dpt xs a = dpt xs b + 1 /\ (∀ x ∈ xs, hasE a x.es = true -> x.id = b) /\ ∀ (T : Int -> ByteArray), T b = txt xs b -> textI xs T a xs.length = txt xs a := by
 obtain ⟨x, hx, e, he, hea, hdx, hp, h1, h2⟩ := dir_up h ha hd
 refine ⟨x.id, hdx, h1, fun y hy hh => ?_, fun T hT => ?_⟩
 ·obtain ⟨f, hf, hfa⟩ := hasE_iff.1 hh
  have hm := pairs_mem.2 ⟨y, hy, f, hf, hfa, rfl⟩
  rw [hp, List.mem_singleton] at hm
  injection hm
 ·rw [textI_all, hp, h2]
  unfold foldT
  simp only [List.foldl_cons, List.foldl_nil, hT]
  unfold tpick
  rw [if_pos (.inl rfl)]
  rfl
/-- What PathOf gives. -/
noncomputable def pathP (V : VolD) (a : Int) : ByteArray × Bool :=
 if volOkB V.nx V.xs = true /\ 0 <= plc V.xs a then (if a = 1 then (⟨#[47]⟩, true) else (textI V.xs (txtT V.xs) a V.xs.length, true)) else (⟨#[]⟩, false)
theorem path_end {V : VolD} {a : Int} {s : ByteArray} {b : Bool} (h : pathP V a = (s, b)) {v : Value} (hv : v = .tuple #[.string s, .bool b]) : Ending.returned v = .returned (.tuple #[.string (pathP V a).1, .bool (pathP V a).2]) := by rw [hv, h]

end Go.Proofs.YtjjniapamdleoaaGreatDoor
