/- The map of file blocks: the walks of both sides. -/
import Derived.Test.YtajgenjfhcapjaaFwExtI
import Derived.StillTailTactics
namespace Go.Proofs.Ytajgenjfhcapjaa
open Go Go.RowKit

/-- Numbers as cells. -/
def IV (l : List Int) : List Value := l.map (.int .i64)
theorem IV_append (a b : List Int) : IV (a ++ b) = IV a ++ IV b := by simp [IV]
theorem IV_length (l : List Int) : (IV l).length = l.length := by simp [IV]
theorem IV_get (l : List Int) (k : Nat) (h : k < l.length) : (IV l)[k]? = some (.int .i64 l[k]) := by simp [IV, h]
theorem IV_set (l : List Int) (k : Nat) (x : Int) : (IV l).set k (.int .i64 x) = IV (l.set k x) := by unfold IV; rw [List.map_set]
theorem reads_num {w : World} {B n : Nat} {A : Option Addr} {xs : List Int} (h : Reads w B 1 A n (IV xs)) {k : Nat} (hk : k < n) : ∃ (hk' : k < xs.length) (ad : Addr), A = some ad ∧ ad.block < B ∧ w.cell? (ad.add k) = some (.int .i64 xs[k]) := by
  obtain ⟨ad, u, h1, h2, h3, h4⟩ := h.at_ hk
  have hl : k < xs.length := by have := h.1; rw [IV_length] at this; omega
  rw [IV_get _ _ hl] at h3
  injection h3 with h3
  exact ⟨hl, ad, h1, h2, by rw [h4, h3]⟩
theorem own_iset {w : World} {base : Nat} {e : TypeId} {n g c : Nat} {m : List Int} (h : w.ownsRow base e 1 (.slice (some ⟨g, 0, none⟩) n c) n (IV m)) (k : Nat) (x : Int) :
    (w.setCell ⟨g, k, none⟩ (.int .i64 x)).ownsRow base e 1 (.slice (some ⟨g, 0, none⟩) n c) n (IV (m.set k x)) := by rw [← IV_set]; exact own_set h k _

set_option maxRecDepth 100000 in
set_option maxHeartbeats 4000000 in
theorem flat_impl (A : Option Addr) (n c : Nat) (xs : List ExtD) (hall : ∀ e ∈ xs, extOk1 e = true) (hn : n ≤ 10000000) (w : World) (hr : Reads w w.heap.size 3 A n (XS xs)) :
    Calls Try.prog 61 #[.slice A n c] w fun e w' => ∃ v, e = .returned v ∧ w'.ownsRow w.heap.size 3 1 v 12 (IV (flatP xs)) ∧ Below w.heap.size w w' := by
  have hl : xs.length = n := by have := hr.1; rw [XS_length] at this; omega
  have Hl := Lib.hid hl
  have Hall := Lib.hid hall
  have Hr := Lib.hid hr
  clear hr hl hall
  have Own0 := Lib.hid (World.ownsRow_lit (e := 3) (size := 1) w #[] 0 (Nat.le_refl _) (by unfold maxLen; omega) rfl)
  go_enter Try.func61, Try.ntmps61
  go_wp2
  go_loopw [3, 8] (fun v i wr => ∃ (j : Nat), j ≤ 12 ∧ i = .int .i64 j ∧ Hid (wr.ownsRow w.heap.size 3 1 v j (IV (List.replicate j (-1)))) ∧ Below w.heap.size w wr) (fun _ i _ => 12 - (intOf i).toNat)
  case atStart => exact ⟨0, by omega, rfl, Own0.out, belA (bel0 w) _⟩
  case round =>
    clear Own0
    obtain ⟨j, hj, rfl, hown, hbel⟩ := hrel
    have hsz := hbel.size
    by_cases hlt : j < 12
    · have q1 : (↑j : Int) < 12 := by omega
      go_wp2_with (at_builtin; go_must (refine wpList_app _ rfl _ _ _ rfl Try.el_int (hown.out.alloc _) rfl (reads_new _ _ _ _ 1 (by rfl)) rfl (by simp [Value.oneCell']) (max_small (by omega)) (by omega) (by simp; omega) ?_); intro v1 w1 own1 hg1 _ hb1)
      have own2 : w1.ownsRow w.heap.size 3 1 v1 (j + 1) (IV (List.replicate (j + 1) (-1))) := by rw [List.replicate_succ', IV_append]; exact own1
      have Own2 := Lib.hid own2
      clear own2 own1
      go_roundw
      case rel => exact ⟨j + 1, by omega, by go_num, Own2.out, (hbel.alloc hsz _).trans hb1⟩
      case measure => simp [intOf]; omega
    · obtain rfl : j = 12 := by omega
      obtain ⟨g, cv, rfl⟩ := own_form1 hown.out (by omega)
      have hg0 := own_ltX hown.out
      have H0 := Lib.hid (show wr.ownsRow w.heap.size 3 1 (.slice (some ⟨g, 0, none⟩) 12 cv) 12 (IV (flatP (xs.take 0))) from hown.out)
      have hcv : 12 ≤ cv := by obtain ⟨_, _, _, h, _⟩ := own_some hown.out; omega
      rename World => w3
      clear hown
      go_wp2
      go_loopw [16] (fun i wr => ∃ (j : Nat), j ≤ n ∧ i = .int .i64 j ∧ Hid (wr.ownsRow w.heap.size 3 1 (.slice (some ⟨g, 0, none⟩) 12 cv) 12 (IV (flatP (xs.take j)))) ∧ Below w.heap.size w wr) (fun i _ => n - (intOf i).toNat)
      case atStart => exact ⟨0, by omega, rfl, H0.out, hbel⟩
      case round =>
        clear H0 hbel hsz hg0
        obtain ⟨j, hj, rfl, hown, hbel⟩ := hrel
        by_cases hlt : j < n
        · obtain ⟨hkx, b, o, rfl, hadb, z0, z1, z2⟩ := reads_ext (Hr.out.below hbel) hlt
          have q0 : (0 : Int) ≤ ↑j := by omega
          have q1 : (↑j : Int) < ↑n := by omega
          obtain ⟨ea, eb, el, hej, n1, n2, n3⟩ := extOk1_nat (Hall.out _ (List.getElem_mem hkx))
          rw [hej] at z0 z1 z2
          simp only at z0 z1 z2
          have HF := Lib.hid (show flatP (xs.take (j + 1)) = setRun (flatP (xs.take j)) ea eb el by rw [flat_take xs j hkx, hej]; simp [mapE])
          obtain ⟨wa, hwa⟩ : ∃ W, wr.alloc (.cells #[.int .i64 ea, .int .i64 eb, .int .i64 el] 76) = W := ⟨_, rfl⟩
          obtain ⟨gx, hgx⟩ : ∃ g, wr.heap.size = g := ⟨_, rfl⟩
          have X : Blk wa gx 76 #[.int .i64 ea, .int .i64 eb, .int .i64 el] := by rw [← hwa, ← hgx]; exact Blk.new' _ _ _ _ rfl
          have BA : Below w.heap.size w wa := by rw [← hwa]; exact belA hbel _
          have UA := Lib.hid (show wa.ownsRow w.heap.size 3 1 (.slice (some ⟨g, 0, none⟩) 12 cv) 12 (IV (flatP (xs.take j))) by rw [← hwa]; exact hown.out.alloc _)
          have x2 := X.get (x := .int .i64 el) 2 rfl
          have lX := X.lt
          clear hej hown hbel
          go_wp2_with fail
          try rw [hwa, hgx]
          clear hwa hgx x2 lX z0 z1 z2
          go_loopw [22] (fun t wr2 => ∃ (k : Nat), t = .int .i64 k ∧ k ≤ el ∧ Hid (wr2.ownsRow w.heap.size 3 1 (.slice (some ⟨g, 0, none⟩) 12 cv) 12 (IV (setRun (flatP (xs.take j)) ea eb k))) ∧ Hid (Blk wr2 gx 76 #[.int .i64 ea, .int .i64 eb, .int .i64 el]) ∧ Below w.heap.size w wr2) (fun t _ => el - (intOf t).toNat)
          case atStart => exact ⟨0, rfl, by omega, UA.out, X, BA⟩
          case round =>
            clear UA X BA
            obtain ⟨k, rfl, hk, U2, X2, B2⟩ := hrel
            by_cases hkl : k < el
            · have q3 : (↑k : Int) < ↑el := by omega
              have x0 := X2.out.get (x := .int .i64 ea) 0 rfl
              have x1 := X2.out.get (x := .int .i64 eb) 1 rfl
              have lX := X2.out.lt
              obtain ⟨s, hs⟩ : ∃ s, ea + k = s := ⟨_, rfl⟩
              have hs2 : s < 12 := by omega
              obtain ⟨⟨u0, c0⟩⟩ : Nonempty _ := ⟨own_cel U2.out s hs2⟩
              have f0 := own_frozen U2.out s
              have hg0 := own_ltX U2.out
              have hne : gx ≠ g := fun e => own_blk_ne U2.out X2.out (by decide) (by rw [e]; rfl)
              have UN := Lib.hid (show (wr.setCell ⟨g, s, none⟩ (.int .i64 ((eb : Int) + (k : Int)))).ownsRow w.heap.size 3 1 (.slice (some ⟨g, 0, none⟩) 12 cv) 12 (IV (setRun (flatP (xs.take j)) ea eb (k + 1))) by
                rw [setRun_succ, hs]; exact own_iset U2.out s _)
              have XN := Lib.hid (X2.out.far (p := ⟨g, s, none⟩) hne (.int .i64 ((eb : Int) + (k : Int))))
              have wS : IntKind.i64.wrap ((ea : Int) + (k : Int)) = (s : Int) := by rw [IntKind.wrap_i64]; omega
              have wE : IntKind.i64.wrap ((eb : Int) + (k : Int)) = (eb : Int) + (k : Int) := by rw [IntKind.wrap_i64]; omega
              have s0 : (0 : Int) ≤ (s : Int) := by omega
              have s1 : (s : Int) < 12 := by omega
              have wS2 : (ea : Int) + (k : Int) = (s : Int) := by omega
              clear hs
              go_wp2
              go_roundw
              case rel => exact ⟨k + 1, by go_num, by omega, UN.out, XN.out, belC B2 _ _ hg0.1 _⟩
              case measure => simp [intOf]; omega
            · obtain rfl : k = el := by omega
              have HO := Lib.hid (show wr.ownsRow w.heap.size 3 1 (.slice (some ⟨g, 0, none⟩) 12 cv) 12 (IV (flatP (xs.take (j + 1)))) by rw [HF.out]; exact U2.out)
              go_wp2
              first
                | exact ⟨⟨j + 1, by omega, by go_num, HO.out, B2⟩, by simp [intOf]; omega⟩
                | (go_roundw; case rel => exact ⟨j + 1, by omega, by go_num, HO.out, B2⟩; case measure => (simp [intOf]; omega))
        · obtain rfl : j = n := by omega
          have HO := Lib.hid (show wr.ownsRow w.heap.size 3 1 (.slice (some ⟨g, 0, none⟩) 12 cv) 12 (IV (flatP xs)) by
            have h := hown.out
            rwa [List.take_of_length_le (by rw [Hl.out]; omega)] at h)
          go_wp2
          go_ret
          exact ⟨_, rfl, HO.out, hbel⟩

end Go.Proofs.Ytajgenjfhcapjaa
