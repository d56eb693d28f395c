/- The first free bit: the reference's runs; FindRun of both sides. -/
import Derived.Test.YtajgenjfhcapjaaFwRun
namespace Go.Proofs.Ytajgenjfhcapjaa
open Go Go.RowKit

structure RunS (bs : List Bool) (i f : Nat) (rs : List RunD) : Prop where
  fi : f ≤ i
  gap : ∀ (k : Nat) (h : k < bs.length), f ≤ k → k < i → bs[k] = false
  all : ∀ r ∈ rs, 1 ≤ r.2
  nil : rs = [] → ∀ (k : Nat) (h : k < bs.length), k < f → bs[k] = true
  head : ∀ r t, rs = r :: t → ∃ k : Nat, r.1 = k ∧ FirstF bs k
  len : rs.length ≤ i
  last : i = bs.length + 1 → f = bs.length + 1
theorem RunS.zero (bs : List Bool) : RunS bs 0 0 [] := ⟨by omega, fun k _ _ h => by omega, by simp, fun _ k _ h => by omega, by simp, by simp, fun h => by omega⟩
theorem RunS.ok {bs : List Bool} {f : Nat} {rs : List RunD} (h24 : bs.length = 24) (h : RunS bs 25 f rs) : HeadOk bs rs := by
  have hf := h.last (by omega)
  refine ⟨fun e => findP_none fun k hk => h.nil e k hk (by omega), fun r t e => ?_⟩
  obtain ⟨k, hk, hf⟩ := h.head r t e
  exact ⟨by rw [hk]; exact findP_first h24 hf, h.all r (by rw [e]; simp)⟩
theorem RunS.free {bs : List Bool} {i f : Nat} {rs : List RunD} (h : RunS bs i f rs) (hi : i < bs.length) (hb : bs[i] = false) : RunS bs (i + 1) f rs where
  fi := by have := h.fi; omega
  gap := fun k hk h1 h2 => by
    by_cases e : k = i
    · subst e; exact hb
    · exact h.gap k hk h1 (by omega)
  all := h.all
  nil := h.nil
  head := h.head
  len := by have := h.len; omega
  last := fun e => by omega
theorem RunS.flush {bs : List Bool} {i f : Nat} {rs : List RunD} (h : RunS bs i f rs) (hi : i ≤ bs.length) (hf : f < i) : RunS bs (i + 1) (i + 1) (rs ++ [((f : Int), (i : Int) - (f : Int))]) where
  fi := by omega
  gap := fun k hk h1 h2 => by omega
  all := fun r hr => by
    rcases List.mem_append.1 hr with hr | hr
    · exact h.all r hr
    · simp at hr; subst hr; simp; omega
  nil := fun e => by simp at e
  head := fun x t e => by
    cases rs with
    | nil => simp at e; obtain ⟨rfl, rfl⟩ := e; exact ⟨f, rfl, by omega, h.gap f (by omega) (by omega) hf, fun j hj => h.nil rfl j (by omega) hj⟩
    | cons p ps => simp at e; obtain ⟨rfl, rfl⟩ := e; exact h.head p ps rfl
  len := by have := h.len; simp; omega
  last := fun e => by omega
theorem RunS.skip {bs : List Bool} {i f : Nat} {rs : List RunD} (h : RunS bs i f rs) (hi : i ≤ bs.length) (hb : ∀ hlt : i < bs.length, bs[i] = true) (hf : ¬ f < i) : RunS bs (i + 1) (i + 1) rs where
  fi := by omega
  gap := fun k hk h1 h2 => by omega
  all := h.all
  nil := fun e k hk hlt => by
    by_cases e2 : k = i
    · subst e2; exact hb hk
    · exact h.nil e k hk (by have := h.fi; omega)
  head := h.head
  len := by have := h.len; omega
  last := fun e => by omega

set_option maxRecDepth 100000 in
set_option maxHeartbeats 2000000 in
theorem runs_spec (A : Option Addr) (n c : Nat) (bs : List Bool) (w : World) (hr : Reads w w.heap.size 1 A n (BS bs)) :
    Calls Try.prog 53 #[.slice A n c] w fun e w' => ∃ v rs, e = .returned v ∧ w'.ownsRow w.heap.size 71 2 v rs.length (RS rs) ∧ rs.length ≤ 25 ∧ HeadOk bs rs ∧ Below w.heap.size w w' := by
  have hl : bs.length = n := by have := hr.1; rw [BS_length] at this; omega
  have Own0 := Lib.hid (World.ownsRow_lit (e := 71) (size := 2) w #[] 0 (Nat.le_refl _) (by unfold maxLen; omega) rfl)
  by_cases h24 : n = 24
  rotate_left
  · have hd : decide (n = 24) = false := by simpa using h24
    have HH := Lib.hid (show HeadOk bs [] from ⟨fun _ => findP_bad (by omega), by simp⟩)
    clear hr hl h24
    go_enter Try.func53, Try.ntmps53
    go_wp2_with fail
    refine (bitsOk_spec _ _ _ _).mono ?_
    rintro e w' ⟨rfl, rfl⟩
    rw [hd]
    go_wp2
    go_ret
    exact ⟨_, [], rfl, Own0.out, by simp, HH.out, belA (bel0 w) _⟩
  · subst h24
    have Hr := Lib.hid hr
    have Hl := Lib.hid hl
    clear hr hl
    go_enter Try.func53, Try.ntmps53
    go_wp2_with fail
    refine (bitsOk_spec _ _ _ _).mono ?_
    rintro e w' ⟨rfl, rfl⟩
    go_wp2
    go_loopw [3, 4, 5] (fun v fr i wr => ∃ (j f : Nat) (rs : List RunD), j ≤ 25 ∧ f ≤ j ∧ i = .int .i64 j ∧ fr = .int .i64 f ∧ Hid (RunS bs j f rs) ∧ Hid (wr.ownsRow w.heap.size 71 2 v rs.length (RS rs)) ∧ Below w.heap.size w wr)
      (fun _ _ i _ => 25 - (intOf i).toNat)
    case atStart => exact ⟨0, 0, [], by omega, by omega, rfl, rfl, RunS.zero bs, Own0.out, belA (bel0 w) _⟩
    case round =>
      clear Own0
      obtain ⟨j, f, rs, hj, hfj, rfl, rfl, hI, hown, hbel⟩ := hrel
      have hsz := hbel.size
      have hlen := hI.out.len
      by_cases hlt : j ≤ 24
      · have q1 : (↑j : Int) ≤ 24 := by omega
        have q0 : (0 : Int) ≤ ↑j := by omega
        have Hj : Hid (∀ hlt : j < bs.length, bs[j] = true) ∨ Hid (∃ h : j < bs.length, bs[j] = false) := by
          by_cases h : j < bs.length
          · cases hb : bs[j]
            · exact .inr ⟨h, hb⟩
            · exact .inl fun _ => hb
          · exact .inl fun h' => absurd h' h
        rcases Hj with Hj | Hj
        · by_cases hff : f < j
          · by_cases h24 : j < 24
            · obtain ⟨hkx, ad, rfl, hadb, z0⟩ := reads_bit (Hr.out.below hbel) h24
              rw [Hj.out hkx] at z0
              have q2 : (↑j : Int) < 24 := by omega
              have q2b : decide ((j : Int) < 24) = true := by simpa using q2
              have happ := Lib.hid (hI.out.flush (by have := Hl.out; omega) hff)
              go_wp2_with (at_builtin; go_must (refine wpList_app _ rfl _ _ _ rfl Try.el_run (hown.out.alloc _) rfl (reads_new _ _ _ _ 1 (by rfl)) rfl (RS_cells [((f : Int), (j : Int) - (f : Int))]) (max_small (by omega)) (by omega) (by simp; omega) ?_); intro v1 w1 own1 hg1 _ hb1)
              have own2 : w1.ownsRow w.heap.size 71 2 v1 (rs ++ [((f : Int), (j : Int) - (f : Int))]).length (RS (rs ++ [((f : Int), (j : Int) - (f : Int))])) := by rw [RS_append, List.length_append]; exact own1
              have Own2 := Lib.hid own2
              clear own2 own1
              go_roundw
              case rel => exact ⟨j + 1, j + 1, _, by omega, by omega, by go_num, by go_num, happ.out, Own2.out, (hbel.alloc hsz _).trans hb1⟩
              case measure => simp [intOf]; omega
            · have q2 : ¬ (↑j : Int) < 24 := by omega
              have q2b : decide ((j : Int) < 24) = false := by simpa using q2
              have happ := Lib.hid (hI.out.flush (by have := Hl.out; omega) hff)
              go_wp2_with (at_builtin; go_must (refine wpList_app _ rfl _ _ _ rfl Try.el_run (hown.out.alloc _) rfl (reads_new _ _ _ _ 1 (by rfl)) rfl (RS_cells [((f : Int), (j : Int) - (f : Int))]) (max_small (by omega)) (by omega) (by simp; omega) ?_); intro v1 w1 own1 hg1 _ hb1)
              have own2 : w1.ownsRow w.heap.size 71 2 v1 (rs ++ [((f : Int), (j : Int) - (f : Int))]).length (RS (rs ++ [((f : Int), (j : Int) - (f : Int))])) := by rw [RS_append, List.length_append]; exact own1
              have Own2 := Lib.hid own2
              clear own2 own1
              go_roundw
              case rel => exact ⟨j + 1, j + 1, _, by omega, by omega, by go_num, by go_num, happ.out, Own2.out, (hbel.alloc hsz _).trans hb1⟩
              case measure => simp [intOf]; omega
          · by_cases h24 : j < 24
            · obtain ⟨hkx, ad, rfl, hadb, z0⟩ := reads_bit (Hr.out.below hbel) h24
              rw [Hj.out hkx] at z0
              have q2 : (↑j : Int) < 24 := by omega
              have q2b : decide ((j : Int) < 24) = true := by simpa using q2
              have happ := Lib.hid (hI.out.skip (by have := Hl.out; omega) Hj.out hff)
              go_wp2
              go_roundw
              case rel => exact ⟨j + 1, j + 1, _, by omega, by omega, by go_num, by go_num, happ.out, hown.out, hbel⟩
              case measure => simp [intOf]; omega
            · have q2 : ¬ (↑j : Int) < 24 := by omega
              have q2b : decide ((j : Int) < 24) = false := by simpa using q2
              have happ := Lib.hid (hI.out.skip (by have := Hl.out; omega) Hj.out hff)
              go_wp2
              go_roundw
              case rel => exact ⟨j + 1, j + 1, _, by omega, by omega, by go_num, by go_num, happ.out, hown.out, hbel⟩
              case measure => simp [intOf]; omega
        · obtain ⟨hkx, hb⟩ := Hj.out
          have h24 : j < 24 := by have := Hl.out; omega
          obtain ⟨_, ad, rfl, hadb, z0⟩ := reads_bit (Hr.out.below hbel) h24
          have hI2 := Lib.hid (hI.out.free hkx hb)
          rw [hb] at z0
          have q2 : (↑j : Int) < 24 := by omega
          clear hb
          go_wp2
          go_roundw
          case rel => exact ⟨j + 1, f, rs, by omega, by omega, by go_num, rfl, hI2.out, hown.out, hbel⟩
          case measure => simp [intOf]; omega
      · obtain rfl : j = 25 := by omega
        have HH := Lib.hid (show HeadOk bs rs from hI.out.ok Hl.out)
        go_wp2
        go_ret
        exact ⟨_, rs, rfl, hown.out, hlen, HH.out, hbel⟩

set_option maxRecDepth 100000 in
set_option maxHeartbeats 1000000 in
theorem findRun_impl (A : Option Addr) (n c : Nat) (bs : List Bool) (w : World) (hr : Reads w w.heap.size 1 A n (BS bs)) :
    Calls Try.prog 35 #[.slice A n c, .int .i64 1] w fun e w' => e = .returned (.int .i64 (findP bs)) ∧ Below w.heap.size w w' := by
  have Hc := Lib.hid (runs_impl A n c bs w hr)
  clear hr
  go_enter Try.func35, Try.ntmps35
  go_wp2_with fail
  refine Hc.out.mono ?_
  rintro e w1 ⟨v, rs, rfl, own, hlen, hH, hb⟩
  clear Hc
  obtain ⟨A1, c1, rfl, _, _, hr1⟩ := own_vals own
  cases rs with
  | nil =>
    have hf := Lib.hid (hH.1 rfl)
    clear hH own hr1
    simp only [List.length_nil]
    go_wp2
    refine wp_loop_rounds 1 ?_
    rw [rounds_succ]
    go_wp2
    go_ret
    exact ⟨ret_int hf.out.symm, hb⟩
  | cons r t =>
    obtain ⟨hf, h1⟩ := hH.2 r t rfl
    obtain ⟨hk, b, o, rfl, _, z0, z1⟩ := reads_run hr1 (k := 0) (by simp)
    simp only [List.getElem_cons_zero, Nat.zero_mul, Nat.add_zero] at z0 z1
    have Hf := Lib.hid hf
    have q0 : (0 : Int) < ((r :: t).length : Int) := by rw [List.length_cons]; omega
    have q0n : 0 < (r :: t).length := by simp
    obtain ⟨N, hN⟩ : ∃ N, (r :: t).length = N := ⟨_, rfl⟩
    obtain ⟨r1, hr1'⟩ : ∃ x, r.1 = x := ⟨_, rfl⟩
    obtain ⟨r2, hr2'⟩ : ∃ x, r.2 = x := ⟨_, rfl⟩
    rw [hN] at q0 q0n ⊢
    rw [hr1'] at z0 Hf
    rw [hr2'] at z1 h1
    clear hf own hH hr1 hN hk hr1' hr2'
    go_wp2
    refine wp_loop_rounds 1 ?_
    rw [rounds_succ]
    go_wp2
    go_ret
    exact ⟨ret_int Hf.out.symm, belA hb _⟩

set_option maxRecDepth 100000 in
set_option maxHeartbeats 1000000 in
theorem findRun_spec (A : Option Addr) (n c : Nat) (bs : List Bool) (w : World) (hr : Reads w w.heap.size 1 A n (BS bs)) :
    Calls Try.prog 23 #[.slice A n c, .int .i64 1] w fun e w' => e = .returned (.int .i64 (findP bs)) ∧ Below w.heap.size w w' := by
  have Hc := Lib.hid (runs_spec A n c bs w hr)
  clear hr
  go_enter Try.func23, Try.ntmps23
  go_wp2_with fail
  refine Hc.out.mono ?_
  rintro e w1 ⟨v, rs, rfl, own, hlen, hH, hb⟩
  clear Hc
  obtain ⟨A1, c1, rfl, _, _, hr1⟩ := own_vals own
  cases rs with
  | nil =>
    have hf := Lib.hid (hH.1 rfl)
    clear hH own hr1
    simp only [List.length_nil]
    go_wp2
    refine wp_loop_rounds 1 ?_
    rw [rounds_succ]
    go_wp2
    go_ret
    exact ⟨ret_int hf.out.symm, hb⟩
  | cons r t =>
    obtain ⟨hf, h1⟩ := hH.2 r t rfl
    obtain ⟨hk, b, o, rfl, _, z0, z1⟩ := reads_run hr1 (k := 0) (by simp)
    simp only [List.getElem_cons_zero, Nat.zero_mul, Nat.add_zero] at z0 z1
    have Hf := Lib.hid hf
    have q0 : (0 : Int) < ((r :: t).length : Int) := by rw [List.length_cons]; omega
    have q0n : 0 < (r :: t).length := by simp
    obtain ⟨N, hN⟩ : ∃ N, (r :: t).length = N := ⟨_, rfl⟩
    obtain ⟨r1, hr1'⟩ : ∃ x, r.1 = x := ⟨_, rfl⟩
    obtain ⟨r2, hr2'⟩ : ∃ x, r.2 = x := ⟨_, rfl⟩
    rw [hN] at q0 q0n ⊢
    rw [hr1'] at z0 Hf
    rw [hr2'] at z1 h1
    clear hf own hH hr1 hN hk hr1' hr2'
    go_wp2
    refine wp_loop_rounds 1 ?_
    rw [rounds_succ]
    go_wp2
    go_ret
    exact ⟨ret_int Hf.out.symm, hb⟩

end Go.Proofs.Ytajgenjfhcapjaa
