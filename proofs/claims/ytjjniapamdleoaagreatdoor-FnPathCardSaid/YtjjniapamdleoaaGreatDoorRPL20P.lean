/- A path is drawn: l20Path. -/
import Derived.Test.YtjjniapamdleoaaGreatDoorRPL6Y
import Derived.Test.YtjjniapamdleoaaGreatDoorRPTextS
namespace Go.Proofs.YtjjniapamdleoaaGreatDoor
open Go Go.RowKit

theorem pth_sz {xs : List InoD} (hzs : ∀ x ∈ xs, ∀ e ∈ x.es, e.s.size <= 25) {a : Int} {n : Nat} {t : ByteArray} (h : Pth xs a n t) : t.size <= n * 26 := by
 induction h with
 | root => show 0 <= _; omega
 | @step x e n t hx he _ _ ih =>
  have := hzs x hx e he
  rw [ByteArray.size_append, ByteArray.size_append, str_size]
  simp only [List.length_singleton]
  omega
theorem textE_sz {T best : ByteArray} {a : Int} {es : List EntD} (hT : hasE a es = true -> T.size <= 800) (hb : best.size <= 900) (hz : ∀ e ∈ es, e.s.size <= 25) : ∀ k, (textE T a es best k).size <= 900
 | 0 => hb
 | k + 1 => by
  have ih := textE_sz (a := a) hT hb hz k
  rw [textE]
  split
  ·exact ih
  ·rename_i e he
   have hm := List.mem_of_getElem? he
   have := hz e hm
   split
   ·rename_i hd
    have h1 := hT (hasE_iff.2 ⟨e, hm, hd⟩)
    exact tpick_size _ _ _ ih (by rw [ByteArray.size_append, ByteArray.size_append, sep_size]; omega)
   ·exact ih
theorem textI_sz {xs : List InoD} {T : Int -> ByteArray} {a : Int} (hT : ∀ x ∈ xs, hasE a x.es = true -> (T x.id).size <= 800) (hz : ∀ x ∈ xs, ∀ e ∈ x.es, e.s.size <= 25) : ∀ k, (textI xs T a k).size <= 900
 | 0 => by show 0 <= _; omega
 | k + 1 => by
  have ih := textI_sz (a := a) hT hz k
  rw [textI]
  split
  ·exact ih
  ·rename_i x hx
   have hm := List.mem_of_getElem? hx
   exact textE_sz (hT _ hm) ih (hz x hm) _
theorem path_sz {V : VolD} (sm : SmV V) (a : Int) : (pathP V a).1.size <= 1000 := by
 have hz : ∀ x ∈ V.xs, ∀ e ∈ x.es, e.s.size <= 25 := fun x hx => (sm.2 x hx).2.1
 have hz2 : ∀ x ∈ V.xs, ∀ e ∈ x.es, e.s.size <= 2000000 := fun x hx e he => by have := hz x hx e he; omega
 unfold pathP
 split
 ·rename_i h
  have hv := volOkB_iff.1 h.1
  split
  ·show 1 <= 1000; omega
  ·refine Nat.le_trans (textI_sz (fun x hx hh => ?_) hz _) (by omega)
   have hd := up_is hv hx hh
   rw [txtT_dir hv hz2 hd]
   obtain ⟨n, t, hp⟩ := hv.pth hx
   have h3 := pth_sz hz hp
   have h4 := hp.short hv hd
   rw [txt_is hv hp hd]
   omega
 ·show 0 <= 1000; omega
def pths : List ByteArray := [⟨#[47]⟩, ⟨#[47, 97]⟩, ⟨#[47, 98, 47, 99]⟩, ⟨#[97]⟩, ⟨#[]⟩, ⟨#[47, 46, 46]⟩, ⟨#[47, 97, 47, 46, 46, 47, 98]⟩, ⟨#[47, 255]⟩, ⟨#[47, 65]⟩, ⟨#[47, 100, 47, 101, 47, 102]⟩]
theorem pths_sz : ∀ t ∈ pths, t.size <= 25 := by
 have h : pths.all (fun t => decide (t.size <= 25)) = true := by decide +kernel
 intro t ht
 exact of_decide_eq_true (List.all_eq_true.1 h t ht)

end Go.Proofs.YtjjniapamdleoaaGreatDoor
