/- Files of the first directory are made and taken away: the reference's PathDo on volumes of one directory. -/
import Derived.Test.YtjjniapamdleoaaGreatDoorRCSpd
import Derived.Test.YtjjniapamdleoaaGreatDoorRCScQ
import Derived.Test.YtjjniapamdleoaaGreatDoorRCPthQ
import Derived.Test.YtjjniapamdleoaaGreatDoorRCScn
namespace Go.Proofs.YtjjniapamdleoaaGreatDoor
open Go Go.RowKit

/-- What making a file answers. -/
def CrQ (V : VolD) (D : List EntD) (n : ByteArray) (r : Int) (V' : VolD) : Prop := (r ≠ 0 /\ V' = V) ∨ (r = 0 /\ ∃ D', ScS V' D' /\ (∀ e ∈ D, e ∈ D') /\ ∀ e ∈ D', e ∈ D ∨ e.s = n)
/-- What taking a file away answers. -/
def UnQ (V : VolD) (D : List EntD) (n : ByteArray) (r : Int) (V' : VolD) : Prop := (r ≠ 0 /\ V' = V) ∨ (r = 0 /\ ∃ D', ScS V' D' /\ (∀ e ∈ D, alikeB e.s n = false -> e ∈ D') /\ ∀ e ∈ D', e ∈ D)
theorem pathDo_mk (v : Value) (V : VolD) (D : List EntD) (h : ScS V D) (s n : ByteArray) (hs : s.size <= 2000000) (hsp : spB s = ([n], true)) (hn : nameOkB n = true) (w : World) (hC : IsVolC w v V) :
  Calls Tryz.prog 34 #[v, .int .i64 1, .string s, .string ⟨#[]⟩, .string ⟨#[]⟩] w fun e w' => VolPost w (CrQ V D n) e w' /\ Below w.heap.size w w' := by
 refine pathDo_q v V 1 h.sz h.ok h.qv (Int.le_refl _) (by decide) 1 s n hs hsp (.inl rfl) (CrQ V D n) (fun r hr => .inl ⟨hr, rfl⟩) (fun _ k hk hp hd hf hl hnx => ?_) (fun h => absurd h (by decide)) w hC
 obtain ⟨h0, hr⟩ := h.head
 have hk0 : k = 0 := by have := h.plc1; omega
 subst hk0
 have he : V.xs[0].es = D := by rw [hr]; rfl
 rw [he] at hf hl ⊢
 have h16 : V.xs.length < 16 := by
  obtain ⟨ids, hx, hpm⟩ := h.is
  have h1 := hpm.length_eq
  rw [List.length_map] at h1
  rw [hx, List.length_cons, List.length_map]
  omega
 obtain ⟨h1, h2, h3⟩ := h.make hn hf hl h16 hnx
 exact .inr ⟨rfl, _, h1, h2, h3⟩
theorem pathDo_un (v : Value) (V : VolD) (D : List EntD) (h : ScS V D) (s n : ByteArray) (hs : s.size <= 2000000) (hsp : spB s = ([n], true)) (w : World) (hC : IsVolC w v V) :
  Calls Tryz.prog 34 #[v, .int .i64 3, .string s, .string ⟨#[]⟩, .string ⟨#[]⟩] w fun e w' => VolPost w (UnQ V D n) e w' /\ Below w.heap.size w w' := by
 refine pathDo_q v V 1 h.sz h.ok h.qv (Int.le_refl _) (by decide) 3 s n hs hsp (.inr rfl) (UnQ V D n) (fun r hr => .inl ⟨hr, rfl⟩) (fun h => absurd h (by decide)) (fun _ k hk hp i hi j hj hf hx he => ?_) w hC
 obtain ⟨h0, hr⟩ := h.head
 have hk0 : k = 0 := by have := h.plc1; omega
 subst hk0
 have he0 : V.xs[0].es = D := by rw [hr]; rfl
 simp only [he0] at hi hf hx ⊢
 obtain ⟨h1, h2, h3⟩ := h.unlink hi hj hf hx he
 exact .inr ⟨rfl, _, h1, h2, h3⟩
/-- The names of the law. -/
def nms : List ByteArray := [⟨#[97]⟩, ⟨#[98]⟩, ⟨#[195, 165]⟩, ⟨#[100]⟩, ⟨#[101]⟩, ⟨#[195, 159]⟩, ⟨#[103]⟩]
theorem nms_ok : ∀ n ∈ nms, nameOkB n = true := by
 have h : nms.all nameOkB = true := by decide +kernel
 exact List.all_eq_true.1 h
theorem nms_sp {n : ByteArray} (h : n ∈ nms) : spB (⟨#[47]⟩ ++ n) = ([n], true) := by
 have hn := nms_ok n h
 have hz := name_le hn
 have h1 : (⟨#[47]⟩ ++ n : ByteArray).data.toList = joinL (rawL [n]) := by simp [ByteArray.data_append, joinL, rawL]
 have hp : ∀ m ∈ [n], nameOkB m = true := fun m hm => by rw [List.mem_singleton.1 hm]; exact hn
 refine sp_is ?_ (by rw [h1]; rfl) (by rw [h1]; exact path_join (raw_part hp)) hp
 rw [ByteArray.size_append]
 have h2 : (⟨#[47]⟩ : ByteArray).size = 1 := rfl
 omega

end Go.Proofs.YtjjniapamdleoaaGreatDoor
