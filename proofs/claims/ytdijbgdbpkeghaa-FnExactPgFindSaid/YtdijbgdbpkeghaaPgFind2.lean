/- An entry of pages found, in the reference. -/
import Derived.Test.YtdijbgdbpkeghaaPgFind
namespace Go.Proofs.Ytdijbgdbpkeghaa
open Go Go.RowKit

set_option maxRecDepth 100000 in
set_option maxHeartbeats 4000000 in
theorem l18At_any (A : Option Addr) (n c : Nat) (ps : List (List EntD)) (x y : Int) (hz : ∀ l ∈ ps, l.length ≤ 10000000) (hn : n ≤ 10000000) (w : World) (hr : PagesAt w w.heap.size A n ps) :
    Calls Try.prog 61 #[.slice A n c, .int .i64 x, .int .i64 y] w fun e w' => w = w' ∧
      ((∃ (i k : Nat) (hi : i < ps.length) (hk : k < ps[i].length), e = .returned (.tuple #[.int .i64 i, .int .i64 k]) ∧ ps.flatten.find? (isAt x y) = some ps[i][k]) ∨
        (e = .returned (.tuple #[.int .i64 (-1), .int .i64 (-1)]) ∧ ps.flatten.find? (isAt x y) = none)) := by
  have hl := hr.len
  have Hr := Lib.hid hr
  have Hz := Lib.hid hz
  clear hr hz
  go_enter Try.func61, Try.ntmps61
  go_wp2
  go_loopw [8] (fun i wr => ∃ (j : Nat), j ≤ n ∧ i = .int .i64 j ∧ Hid ((ps.take j).flatten.find? (isAt x y) = none) ∧ w = wr)
    (fun i _ => n - (intOf i).toNat)
  case atStart => exact ⟨0, by omega, rfl, by simp [Hid], rfl⟩
  case round =>
    obtain ⟨j, hj, rfl, hnone, rfl⟩ := hrel
    by_cases hlt : j < n
    · obtain ⟨hkx, b, o, A', c', rfl, hadb, z0, hrow⟩ := Hr.out.at_ hlt
      have q0 : (0 : Int) ≤ ↑j := by omega
      have q1 : (↑j : Int) < ↑n := by omega
      have hfl := Lib.hid (flat_take_succ ps j hkx)
      have hflat := Lib.hid (flat_at ps j)
      have hzj := Hz.out _ (List.getElem_mem hkx)
      obtain ⟨l, hlj⟩ : ∃ l, ps[j] = l := ⟨_, rfl⟩
      have Hl := Lib.hid hlj
      rw [hlj] at z0 hrow hfl hzj
      clear hlj
      have Hrow := Lib.hid hrow
      clear hrow
      obtain ⟨m, hm⟩ : ∃ m, l.length = m := ⟨_, rfl⟩
      rw [hm] at z0 Hrow hzj
      have Hm := Lib.hid hm
      clear hm
      go_wp2
      go_loopw [9] (fun i wr => ∃ (k : Nat), k ≤ m ∧ i = .int .i64 k ∧ Hid (((ps.take j).flatten ++ l.take k).find? (isAt x y) = none) ∧ w = wr)
        (fun i _ => m - (intOf i).toNat)
      case atStart => exact ⟨0, by omega, rfl, by simpa [Hid] using hnone.out, rfl⟩
      case round =>
        obtain ⟨k, hk, rfl, hno, rfl⟩ := hrel
        by_cases hlk : k < m
        · obtain ⟨hkl, b', o', rfl, hadb', y0, y1, y2, y3⟩ := reads_ent Hrow.out hlk
          have r0 : (0 : Int) ≤ ↑k := by omega
          have r1 : (↑k : Int) < ↑m := by omega
          have hts := Lib.hid (List.take_succ_eq_append_getElem hkl)
          obtain ⟨e, he⟩ : ∃ e, l[k] = e := ⟨_, rfl⟩
          rw [he] at y0 y1 y2 y3 hts
          have He := Lib.hid he
          clear he
          by_cases h1 : e.h = x
          · by_cases h2 : e.i = y
            · have hkl' : k < ps[j].length := by rw [Hl.out]; exact hkl
              have e1 : ps[j].take k = l.take k := by rw [Hl.out]
              have e2 : ps[j][k] = e := by rw [← He.out]; simp only [Hl.out]
              have Hf := Lib.hid (show ps.flatten.find? (isAt x y) = some ps[j][k] by
                obtain ⟨r, hr⟩ := hflat.out k hkx hkl'
                rw [hr, e1, e2]; exact find_hit hno.out (by simp [isAt, h1, h2]))
              have h1' : (e.h == x) = true := by simp [h1]
              have h2' : (e.i == y) = true := by simp [h2]
              clear h1 h2 e1 e2
              go_wp2
              exact bodyPost_ret (v := .tuple #[.int .i64 j, .int .i64 k]) (by simp [results, Try.results61, go_sem]) rfl ⟨rfl, .inl ⟨j, k, hkx, hkl', rfl, Hf.out⟩⟩
            · have Hmi := Lib.hid (find_miss (p := isAt x y) hno.out (show isAt x y e = false by simp [isAt, h2]))
              have h1' : (e.h == x) = true := by simp [h1]
              have h2' : (e.i == y) = false := by simp [h2]
              clear h1 h2
              go_wp2
              go_roundw
              case rel => exact ⟨k + 1, by omega, by go_num, by show _ = _; rw [hts.out, ← List.append_assoc]; exact Hmi.out, by trivial⟩
              case measure => simp [intOf]; omega
          · have Hmi := Lib.hid (find_miss (p := isAt x y) hno.out (show isAt x y e = false by simp [isAt, h1]))
            have h1' : (e.h == x) = false := by simp [h1]
            clear h1
            go_wp2
            go_roundw
            case rel => exact ⟨k + 1, by omega, by go_num, by show _ = _; rw [hts.out, ← List.append_assoc]; exact Hmi.out, by trivial⟩
            case measure => simp [intOf]; omega
        · have Hno := Lib.hid (show (ps.take (j + 1)).flatten.find? (isAt x y) = none by
            rw [hfl.out]; have := hno.out; rwa [show l.take k = l from List.take_of_length_le (by have := Hm.out; omega)] at this)
          go_wp2
          go_roundw
          case rel => exact ⟨j + 1, by omega, by go_num, Hno.out, by trivial⟩
          case measure => simp [intOf]; omega
    · have Hf := Lib.hid (show ps.flatten.find? (isAt x y) = none by have := hnone.out; rwa [List.take_of_length_le (by omega)] at this)
      go_wp2
      exact bodyPost_ret (v := .tuple #[.int .i64 (-1), .int .i64 (-1)]) (by simp [results, Try.results61, go_sem]) rfl ⟨rfl, .inr ⟨rfl, Hf.out⟩⟩

set_option maxRecDepth 100000 in
set_option maxHeartbeats 4000000 in
theorem pgFind_spec (A : Option Addr) (n c : Nat) (ps : List (List EntD)) (x y : Int) (hzz : ∀ l ∈ ps, l.length ≤ 10000000) (hz : ps.flatten.length ≤ 10000000) (hn : n ≤ 10000000) (w : World) (hr : PagesAt w w.heap.size A n ps) :
    Calls Try.prog 20 #[.slice A n c, .int .i64 x, .int .i64 y] w fun e w' =>
      e = .returned (.tuple #[.agg #[.int .i64 (fndP ps x y).1.h, .int .i64 (fndP ps x y).1.i, .string (fndP ps x y).1.s, .int .i64 (fndP ps x y).1.d], .bool (fndP ps x y).2]) ∧ Below w.heap.size w w' := by
  have hl := hr.len
  have Hr := Lib.hid hr
  have Hzz := Lib.hid hzz
  clear hr hzz
  have fz : ∀ W : World, Blk W w.heap.size 37 #[.int .i64 0, .int .i64 0, .string ⟨#[]⟩, .int .i64 0] → Below w.heap.size w W → True := fun _ _ _ => trivial
  clear fz
  rcases hok : okPB ps with _ | _
  · have Hf := Lib.hid (fndP_none (ps := ps) (x := x) (y := y) (by rw [pgL_no hok]; rfl))
    go_enter Try.func20, Try.ntmps20
    go_wp2_with fail
    refine (pagesOk_spec A n c ps hz hn _ ((Hr.out.below (belA (bel0 w) _)).more (by simp))).mono ?_
    rintro e w1 ⟨rfl, hb1⟩
    have hBr := (Blk.new' w 37 #[.int .i64 0, .int .i64 0, .string ⟨#[]⟩, .int .i64 0] w.heap.size).below hb1 (by simp)
    have belr := belN (belA (bel0 w) _) hb1
    have c0 := hBr.get (x := .int .i64 0) 0 rfl
    have c1 := hBr.get (x := .int .i64 0) 1 rfl
    have c2 := hBr.get (x := .string ⟨#[]⟩) 2 rfl
    have c3 := hBr.get (x := .int .i64 0) 3 rfl
    have f0 := hBr.frozen 0
    have f1 := hBr.frozen 1
    have f2 := hBr.frozen 2
    have f3 := hBr.frozen 3
    go_wp2
    refine bodyPost_ret (v := .tuple #[.agg #[.int .i64 0, .int .i64 0, .string ⟨#[]⟩, .int .i64 0], .bool false]) (by simp [results, Try.results20, go_sem, c0, c1, c2, c3]) rfl ⟨fnd_end Hf.out rfl, ?_⟩
    exact belC (belC (belC (belC belr _ _ (Nat.le_refl _) _) _ _ (Nat.le_refl _) _) _ _ (Nat.le_refl _) _) _ _ (Nat.le_refl _) _
  · have Hl := Lib.hid (pgL_yes hok)
    go_enter Try.func20, Try.ntmps20
    go_wp2_with fail
    refine (pagesOk_spec A n c ps hz hn _ ((Hr.out.below (belA (bel0 w) _)).more (by simp))).mono ?_
    rintro e w1 ⟨rfl, hb1⟩
    have hBr := (Blk.new' w 37 #[.int .i64 0, .int .i64 0, .string ⟨#[]⟩, .int .i64 0] w.heap.size).below hb1 (by simp)
    have belr := belN (belA (bel0 w) _) hb1
    have c0 := hBr.get (x := .int .i64 0) 0 rfl
    have c1 := hBr.get (x := .int .i64 0) 1 rfl
    have c2 := hBr.get (x := .string ⟨#[]⟩) 2 rfl
    have c3 := hBr.get (x := .int .i64 0) 3 rfl
    have f0 := hBr.frozen 0
    have f1 := hBr.frozen 1
    have f2 := hBr.frozen 2
    have f3 := hBr.frozen 3
    have HP1 := Lib.hid (Hr.out.below belr)
    go_wp2_with fail
    refine (l18At_any A n c ps x y Hzz.out hn _ (HP1.out.more belr.size)).mono ?_
    rintro e w2 ⟨rfl, ⟨i, k, hi, hk, rfl, hfnd⟩ | ⟨rfl, hfnd⟩⟩
    · obtain ⟨_, b, o, A', c', rfl, hadb, z0, hrow⟩ := HP1.out.at_ (k := i) (by omega)
      obtain ⟨_, b', o', rfl, hadb', y0, y1, y2, y3⟩ := reads_ent hrow hk
      have Hf := Lib.hid (fndP_some (ps := ps) (x := x) (y := y) (by rw [Hl.out]; exact hfnd))
      have q0 : (0 : Int) ≤ ↑i := by omega
      have q1 : (↑i : Int) < ↑n := by omega
      have r0 : (0 : Int) ≤ ↑k := by omega
      obtain ⟨m, hm⟩ : ∃ m, ps[i].length = m := ⟨_, rfl⟩
      have r1 : (↑k : Int) < ↑m := by omega
      rw [hm] at z0
      obtain ⟨e, he⟩ : ∃ e, ps[i][k] = e := ⟨_, rfl⟩
      rw [he] at y0 y1 y2 y3 Hf
      have ne1 : b ≠ w.heap.size := by omega
      have ne2 : b' ≠ w.heap.size := by omega
      have hF := (((hBr.put 0 (.int .i64 e.h) #[.int .i64 e.h, .int .i64 0, .string ⟨#[]⟩, .int .i64 0] rfl).put 1 (.int .i64 e.i) #[.int .i64 e.h, .int .i64 e.i, .string ⟨#[]⟩, .int .i64 0] rfl).put 2 (.string e.s) #[.int .i64 e.h, .int .i64 e.i, .string e.s, .int .i64 0] rfl).put 3 (.int .i64 e.d) #[.int .i64 e.h, .int .i64 e.i, .string e.s, .int .i64 e.d] rfl
      have s0 := Lib.hid (hF.get (x := .int .i64 e.h) 0 rfl)
      have s1 := Lib.hid (hF.get (x := .int .i64 e.i) 1 rfl)
      have s2 := Lib.hid (hF.get (x := .string e.s) 2 rfl)
      have s3 := Lib.hid (hF.get (x := .int .i64 e.d) 3 rfl)
      clear hfnd hrow he hm hk
      go_wp2
      refine bodyPost_ret (v := .tuple #[.agg #[.int .i64 e.h, .int .i64 e.i, .string e.s, .int .i64 e.d], .bool true]) (by simp [results, Try.results20, go_sem, c0, c1, c2, c3]) rfl ⟨fnd_end Hf.out rfl, ?_⟩
      exact belC (belC (belC (belC belr _ _ (Nat.le_refl _) _) _ _ (Nat.le_refl _) _) _ _ (Nat.le_refl _) _) _ _ (Nat.le_refl _) _
    · have Hf := Lib.hid (fndP_none (ps := ps) (x := x) (y := y) (by rw [Hl.out]; exact hfnd))
      clear hfnd
      go_wp2
      refine bodyPost_ret (v := .tuple #[.agg #[.int .i64 0, .int .i64 0, .string ⟨#[]⟩, .int .i64 0], .bool false]) (by simp [results, Try.results20, go_sem, c0, c1, c2, c3]) rfl ⟨fnd_end Hf.out rfl, ?_⟩
      exact belC (belC (belC (belC belr _ _ (Nat.le_refl _) _) _ _ (Nat.le_refl _) _) _ _ (Nat.le_refl _) _) _ _ (Nat.le_refl _) _

end Go.Proofs.Ytdijbgdbpkeghaa
