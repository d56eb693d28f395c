/- Volumes are drawn: where a call goes, what it is, and a volume that calls have made. -/
import Derived.Test.YtjjniapamdleoaaGreatDoorRCL6D
import Derived.Test.YtjjniapamdleoaaGreatDoorRCDraw
import Derived.Deep.CutBlock
namespace Go.Proofs.YtjjniapamdleoaaGreatDoor
open Go Go.RowKit
set_option maxHeartbeats 4000000
set_option maxRecDepth 100000

/-- A volume in memory of one's own, from block lo on. -/
def YV (w : World) (lo : Nat) (v : Value) (V : VolD) : Prop := ∃ g c us, v = .agg #[.int .i64 V.nx, .slice (some ⟨g, 0, none⟩) V.xs.length c] /\ YR w lo g c V.xs us
theorem YR.grownC {w w' : World} {lo g c q : Nat} {xs : List InoD} {vs : List Value} (h : YR w lo g c xs vs) (hg : w.grownBy w' (some q)) (hq : q < lo) : YR w' lo g c xs vs :=
 ⟨own_g h.1 hg hq, h.2.1, fun i hi => by obtain ⟨v, h1, h2⟩ := h.2.2 i hi; exact ⟨v, h1, own_g h2 hg hq⟩⟩
theorem rd_of {w : World} {base : Nat} {e : TypeId} {size n c : Nat} {A : Option Addr} {xs : List Value} (h : w.ownsRow base e size (.slice A n c) n xs) : Reads w w.heap.size size A n xs := by
 obtain ⟨A', c', hv, _, _, hr⟩ := own_vals h
 cases hv
 exact hr
section
variable {w0 wx w' : World} {g : Nat} {A : Option Addr} {n cp : Nat} {bs : List UInt8} {lo gy c : Nat} {nx : Int} {xs : List InoD} {us : List Value} {px : Nat} {cs : Array Value}
end
def vol0 : VolD := ⟨2, [⟨1, 2, 1, ⟨#[]⟩, []⟩]⟩
theorem qv0 {K : Int} (hK : 1 <= K) : QV K vol0 := by
 refine ⟨⟨by decide, by decide⟩, by decide, by simp [vol0], ?_, ⟨_, List.mem_singleton.2 rfl, rfl⟩, ?_, ?_, ?_, ?_, ?_⟩
 ·intro x hx; rw [List.mem_singleton.1 hx]; exact ⟨by decide, by decide⟩
 ·intro x hx; rw [List.mem_singleton.1 hx]; exact .inr rfl
 ·intro x hx; rw [List.mem_singleton.1 hx]; exact dirOk_nil
 ·intro x hx e he; rw [List.mem_singleton.1 hx] at he; exact absurd he List.not_mem_nil
 ·intro x hx; rw [List.mem_singleton.1 hx]; refine ⟨by decide, by show (1 : Int) <= K; exact hK⟩
 ·intro x hx; rw [List.mem_singleton.1 hx]; decide
theorem newVol_any (w : World) :
  Calls Tryz.prog 38 #[] w fun e w' => ∃ v, e = .returned v /\ YV w' w.heap.size v vol0 /\ Below w.heap.size w w' := by
 obtain ⟨w1, hW1⟩ : ∃ W, w.alloc (.cells #[.int .i64 0, .slice none 0 0] 26) = W := ⟨_, rfl⟩
 have B1 : Below w.heap.size w w1 := by rw [<- hW1]; exact belA (bel0 w) _
 have k1 : Blk w1 w.heap.size 26 #[.int .i64 0, .slice none 0 0] := by rw [<- hW1]; exact Blk.new' _ _ _ _ rfl
 have own := World.ownsRow_lit (e := 36) (size := 5) w1 #[.int .i64 1, .int .i64 2, .int .i64 1, .string ⟨#[]⟩, .slice none 0 0] 1 (Nat.le_refl _) (by unfold maxLen; omega) rfl
 have B2 : Below w.heap.size w (w1.alloc (.cells #[.int .i64 1, .int .i64 2, .int .i64 1, .string ⟨#[]⟩, .slice none 0 0] 36)) := belA B1 _
 have k2 := k1.alloc (.cells #[.int .i64 1, .int .i64 2, .int .i64 1, .string ⟨#[]⟩, .slice none 0 0] 36)
 have Y2 : YR (w1.alloc (.cells #[.int .i64 1, .int .i64 2, .int .i64 1, .string ⟨#[]⟩, .slice none 0 0] 36)) w1.heap.size w1.heap.size 1 vol0.xs [.slice none 0 0] := ⟨own, rfl, fun i hi => ⟨_, by have : i = 0 := (by have h1 : i < 1 := hi; omega); subst this; rfl, by have : i = 0 := (by have h1 : i < 1 := hi; omega); subst this; exact own_nilC _ _ _ _⟩⟩
 have S1 : w1.heap.size = w.heap.size + 1 := by rw [<- hW1]; simp
 have HW1 := Lib.hid hW1
 have HS := Lib.hid S1
 have B2' := Lib.hid B2
 have Y2' := Lib.hid Y2
 have K2 := Lib.hid k2
 obtain ⟨x_0, x_1⟩ := k2.g2
 obtain ⟨xf0, xf1⟩ := k2.f2
 have xl := k2.lt
 clear hW1 S1 k1 own B1 B2 Y2 k2
 go_enter Tryz.func38, Tryz.ntmps38
 go_upto_region 1 with fail
 rw [HW1.out]
 go_wp2
 refine foldBPL ?_
 intro wf hwf
 have kf : Blk wf w.heap.size 26 #[.int .i64 2, .slice (some ⟨w1.heap.size, 0, none⟩) 1 1] := by rw [hwf]; exact (K2.out.put 0 (.int .i64 2) _ rfl).put 1 (.slice (some ⟨w1.heap.size, 0, none⟩) 1 1) _ rfl
 have Yf : YR wf w1.heap.size w1.heap.size 1 vol0.xs [.slice none 0 0] := by rw [hwf]; exact (Y2'.out.farV K2.out 0 _).farV (K2.out.put 0 (.int .i64 2) #[.int .i64 2, .slice none 0 0] rfl) 1 _
 have Bf : Below w.heap.size w wf := by rw [hwf]; exact belC (belC B2'.out _ _ (Nat.le_refl _) _) _ _ (Nat.le_refl _) _
 clear hwf x_0 x_1 xf0 xf1 xl
 obtain ⟨x_0, x_1⟩ := kf.g2
 refine bodyPost_ret (v := .agg #[.int .i64 2, .slice (some ⟨w1.heap.size, 0, none⟩) 1 1]) (by simp [results, Tryz.results38, go_sem, x_0, x_1]) rfl ⟨_, rfl, ⟨w1.heap.size, 1, _, rfl, Yf.more (by have := HS.out; omega)⟩, Bf⟩

end Go.Proofs.YtjjniapamdleoaaGreatDoor
