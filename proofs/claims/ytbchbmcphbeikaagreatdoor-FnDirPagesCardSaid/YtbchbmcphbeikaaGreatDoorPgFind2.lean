/- An entry of pages found, in the reference. -/
import Derived.Test.YtbchbmcphbeikaaGreatDoorPgOk
namespace Go.Proofs.YtbchbmcphbeikaaGreatDoor
open Go Go.RowKit

set_option maxRecDepth 100000 in
set_option maxHeartbeats 4000000 in
theorem l18At_any (A : Option Addr) (n c : Nat) (ps : List (List EntD)) (x y : Int) (hz : ∀ l ∈ ps, l.length ≤ 10000000) (hn : n ≤ 10000000) (w : World) (hr : PagesAt w w.heap.size A n ps) :
    Calls Tryz.prog 90 #[.slice A n c, .int .i64 x, .int .i64 y] w fun e w' => w = w' ∧
      ((∃ (i k : Nat) (hi : i < ps.length) (hk : k < ps[i].length), e = .returned (.tuple #[.int .i64 i, .int .i64 k]) ∧ ps.flatten.find? (isAt x y) = some ps[i][k]) ∨
        (e = .returned (.tuple #[.int .i64 (-1), .int .i64 (-1)]) ∧ ps.flatten.find? (isAt x y) = none)) := by
  have hl := hr.len
  have Hr := Lib.hid hr
  have Hz := Lib.hid hz
  clear hr hz
  go_enter Tryz.func90, Tryz.ntmps90
  go_wp2
  go_loopw [8] (fun i wr => ∃ (j : Nat), j ≤ n ∧ i = .int .i64 j ∧ Hid ((ps.take j).flatten.find? (isAt x y) = none) ∧ w = wr)
    (fun i _ => n - (intOf i).toNat)
  case atStart => exact ⟨0, by omega, rfl, by simp [Hid], rfl⟩
  case round =>
    obtain ⟨j, hj, rfl, hnone, rfl⟩ := hrel
    by_cases hlt : j < n
    · obtain ⟨hkx, b, o, A', c', rfl, hadb, z0, hrow⟩ := Hr.out.at_ hlt
      have q0 : (0 : Int) ≤ ↑j := by omega
      have q1 : (↑j : Int) < ↑n := by omega
      have hfl := Lib.hid (flat_take_succ ps j hkx)
      have hflat := Lib.hid (flat_at ps j)
      have hzj := Hz.out _ (List.getElem_mem hkx)
      obtain ⟨l, hlj⟩ : ∃ l, ps[j] = l := ⟨_, rfl⟩
      have Hl := Lib.hid hlj
      rw [hlj] at z0 hrow hfl hzj
      clear hlj
      have Hrow := Lib.hid hrow
      clear hrow
      obtain ⟨m, hm⟩ : ∃ m, l.length = m := ⟨_, rfl⟩
      rw [hm] at z0 Hrow hzj
      have Hm := Lib.hid hm
      clear hm
      go_wp2
      go_loopw [9] (fun i wr => ∃ (k : Nat), k ≤ m ∧ i = .int .i64 k ∧ Hid (((ps.take j).flatten ++ l.take k).find? (isAt x y) = none) ∧ w = wr)
        (fun i _ => m - (intOf i).toNat)
      case atStart => exact ⟨0, by omega, rfl, by simpa [Hid] using hnone.out, rfl⟩
      case round =>
        obtain ⟨k, hk, rfl, hno, rfl⟩ := hrel
        by_cases hlk : k < m
        · obtain ⟨hkl, b', o', rfl, hadb', y0, y1, y2, y3⟩ := reads_ent Hrow.out hlk
          have r0 : (0 : Int) ≤ ↑k := by omega
          have r1 : (↑k : Int) < ↑m := by omega
          have hts := Lib.hid (List.take_succ_eq_append_getElem hkl)
          obtain ⟨e, he⟩ : ∃ e, l[k] = e := ⟨_, rfl⟩
          rw [he] at y0 y1 y2 y3 hts
          have He := Lib.hid he
          clear he
          by_cases h1 : e.h = x
          · by_cases h2 : e.i = y
            · have hkl' : k < ps[j].length := by rw [Hl.out]; exact hkl
              have e1 : ps[j].take k = l.take k := by rw [Hl.out]
              have e2 : ps[j][k] = e := by rw [← He.out]; simp only [Hl.out]
              have Hf := Lib.hid (show ps.flatten.find? (isAt x y) = some ps[j][k] by
                obtain ⟨r, hr⟩ := hflat.out k hkx hkl'
                rw [hr, e1, e2]; exact find_hit hno.out (by simp [isAt, h1, h2]))
              have h1' : (e.h == x) = true := by simp [h1]
              have h2' : (e.i == y) = true := by simp [h2]
              clear h1 h2 e1 e2
              go_wp2
              exact bodyPost_ret (v := .tuple #[.int .i64 j, .int .i64 k]) (by simp [results, Tryz.results90, go_sem]) rfl ⟨rfl, .inl ⟨j, k, hkx, hkl', rfl, Hf.out⟩⟩
            · have Hmi := Lib.hid (find_miss (p := isAt x y) hno.out (show isAt x y e = false by simp [isAt, h2]))
              have h1' : (e.h == x) = true := by simp [h1]
              have h2' : (e.i == y) = false := by simp [h2]
              clear h1 h2
              go_wp2
              go_roundw
              case rel => exact ⟨k + 1, by omega, by go_num, by show _ = _; rw [hts.out, ← List.append_assoc]; exact Hmi.out, by trivial⟩
              case measure => simp [intOf]; omega
          · have Hmi := Lib.hid (find_miss (p := isAt x y) hno.out (show isAt x y e = false by simp [isAt, h1]))
            have h1' : (e.h == x) = false := by simp [h1]
            clear h1
            go_wp2
            go_roundw
            case rel => exact ⟨k + 1, by omega, by go_num, by show _ = _; rw [hts.out, ← List.append_assoc]; exact Hmi.out, by trivial⟩
            case measure => simp [intOf]; omega
        · have Hno := Lib.hid (show (ps.take (j + 1)).flatten.find? (isAt x y) = none by
            rw [hfl.out]; have := hno.out; rwa [show l.take k = l from List.take_of_length_le (by have := Hm.out; omega)] at this)
          go_wp2
          go_roundw
          case rel => exact ⟨j + 1, by omega, by go_num, Hno.out, by trivial⟩
          case measure => simp [intOf]; omega
    · have Hf := Lib.hid (show ps.flatten.find? (isAt x y) = none by have := hnone.out; rwa [List.take_of_length_le (by omega)] at this)
      go_wp2
      exact bodyPost_ret (v := .tuple #[.int .i64 (-1), .int .i64 (-1)]) (by simp [results, Tryz.results90, go_sem]) rfl ⟨rfl, .inr ⟨rfl, Hf.out⟩⟩

end Go.Proofs.YtbchbmcphbeikaaGreatDoor
