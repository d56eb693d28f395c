/- The block of a file block; a block put into extents: the walks of both sides. -/
import Derived.Test.YtajgenjfhcapjaaFwMap2
namespace Go.Proofs.Ytajgenjfhcapjaa
open Go Go.RowKit

set_option maxRecDepth 100000 in
set_option maxHeartbeats 2000000 in
theorem blockAt_impl (A : Option Addr) (n c : Nat) (xs : List ExtD) (hn : n ≤ 10000000) (i : Nat) (hi : i < 12) (w : World) (hr : Reads w w.heap.size 3 A n (XS xs)) :
    Calls Try.prog 34 #[.slice A n c, .int .i64 i] w fun e w' => e = .returned (.int .i64 (blockP xs i)) ∧ Below w.heap.size w w' := by
  have Hr := Lib.hid (fun (W : World) (hb : Below w.heap.size w W) => (hr.below hb).more hb.size)
  clear hr
  have q0 : (0 : Int) ≤ ↑i := by omega
  have q1 : (↑i : Int) < 12 := by omega
  have hin : inI i 0 11 = true := inI_true.2 (by omega)
  cases hE : extsOkB xs
  · have HB := Lib.hid (show blockP xs i = -1 by unfold blockP; rw [hE]; rfl)
    have Hx := Lib.hid hE
    clear hE
    go_enter Try.func34, Try.ntmps34
    go_wp2_with fail
    refine (extsOk_impl A n c xs hn w (Hr.out w (bel0 w))).mono ?_
    rintro e w1 ⟨rfl, hb1⟩
    rw [Hx.out]
    go_wp2
    go_ret
    exact ⟨ret_int HB.out.symm, hb1⟩
  · have hall := extsOk_all hE
    have HB := Lib.hid (show blockP xs i = (flatP xs).getD i (-1) by unfold blockP; rw [hE]; rfl)
    have Hall := Lib.hid hall
    have Hx := Lib.hid hE
    clear hE hall
    go_enter Try.func34, Try.ntmps34
    go_wp2_with fail
    refine (extsOk_impl A n c xs hn w (Hr.out w (bel0 w))).mono ?_
    rintro e w1 ⟨rfl, hb1⟩
    rw [Hx.out]
    go_wp2_with fail
    refine (within_any _ _ _ _).mono ?_
    rintro e w' ⟨rfl, rfl⟩
    rw [hin]
    go_wp2_with fail
    refine (flat_impl A n c xs Hall.out hn _ (Hr.out _ hb1)).mono ?_
    rintro e w2 ⟨v, rfl, hown, hb2⟩
    obtain ⟨g, cv, rfl⟩ := own_form1 hown (by omega)
    have z0 : w2.cell? ⟨g, i, none⟩ = some (.int .i64 ((flatP xs)[i]'(by rw [flatP_len]; omega))) := by rw [hown.cellAt i (by omega)]; exact IV_get _ _ (by rw [flatP_len]; omega)
    have HV := Lib.hid (getD_at (m := flatP xs) (j := i) (by rw [flatP_len]; omega))
    obtain ⟨x, hx⟩ : ∃ x, (flatP xs)[i]'(by rw [flatP_len]; omega) = x := ⟨_, rfl⟩
    rw [hx] at z0 HV
    clear hx hown
    go_wp2
    go_ret
    exact ⟨ret_int (by rw [HB.out, HV.out]), belN hb1 hb2⟩

set_option maxRecDepth 100000 in
set_option maxHeartbeats 2000000 in
theorem blockAt_spec (A : Option Addr) (n c : Nat) (xs : List ExtD) (hn : n ≤ 10000000) (i : Nat) (hi : i < 12) (w : World) (hr : Reads w w.heap.size 3 A n (XS xs)) :
    Calls Try.prog 22 #[.slice A n c, .int .i64 i] w fun e w' => e = .returned (.int .i64 (blockP xs i)) ∧ Below w.heap.size w w' := by
  have Hr := Lib.hid (fun (W : World) (hb : Below w.heap.size w W) => (hr.below hb).more hb.size)
  clear hr
  have q0 : (0 : Int) ≤ ↑i := by omega
  have q1 : (↑i : Int) < 12 := by omega
  cases hE : extsOkB xs
  · have HB := Lib.hid (show blockP xs i = -1 by unfold blockP; rw [hE]; rfl)
    have Hx := Lib.hid hE
    clear hE
    go_enter Try.func22, Try.ntmps22
    go_wp2_with fail
    refine (extsOk_spec A n c xs hn w (Hr.out w (bel0 w))).mono ?_
    rintro e w1 ⟨rfl, hb1⟩
    rw [Hx.out]
    go_wp2
    go_ret
    exact ⟨ret_int HB.out.symm, hb1⟩
  · have hall := extsOk_all hE
    have HB := Lib.hid (show blockP xs i = (flatP xs).getD i (-1) by unfold blockP; rw [hE]; rfl)
    have Hall := Lib.hid hall
    have Hx := Lib.hid hE
    clear hE hall
    go_enter Try.func22, Try.ntmps22
    go_wp2_with fail
    refine (extsOk_spec A n c xs hn w (Hr.out w (bel0 w))).mono ?_
    rintro e w1 ⟨rfl, hb1⟩
    rw [Hx.out]
    go_wp2_with fail
    refine (map_spec A n c xs Hall.out hn _ (Hr.out _ hb1)).mono ?_
    rintro e w2 ⟨rfl, hown, hb2⟩
    obtain ⟨g, hg⟩ : ∃ g, w1.heap.size = g := ⟨_, rfl⟩
    rw [hg] at hown ⊢
    have z0 : w2.cell? ⟨g, i, none⟩ = some (.int .i64 ((flatP xs)[i]'(by rw [flatP_len]; omega))) := by rw [hown.cellAt i (by omega)]; exact IV_get _ _ (by rw [flatP_len]; omega)
    have HV := Lib.hid (getD_at (m := flatP xs) (j := i) (by rw [flatP_len]; omega))
    obtain ⟨x, hx⟩ : ∃ x, (flatP xs)[i]'(by rw [flatP_len]; omega) = x := ⟨_, rfl⟩
    rw [hx] at z0 HV
    clear hx hown hg
    go_wp2
    go_ret
    exact ⟨ret_int (by rw [HB.out, HV.out]), belN hb1 hb2⟩

/-- A number stands in a row. -/
def hasI (m : List Int) (b : Int) : Bool := decide (b ∈ m)
theorem hasI_true {m : List Int} {b : Int} : hasI m b = true ↔ b ∈ m := by simp [hasI]
theorem hasI_hit {m : List Int} {j : Nat} (h : j < m.length) : hasI m m[j] = true := hasI_true.2 (List.getElem_mem h)
theorem hasI_none {m : List Int} {b : Int} (h : ∀ (k : Nat) (hk : k < m.length), m[k] ≠ b) : hasI m b = false := by
  cases hh : hasI m b
  · rfl
  · obtain ⟨k, hk, e⟩ := List.getElem_of_mem (hasI_true.1 hh)
    exact absurd e (h k hk)

set_option maxRecDepth 100000 in
set_option maxHeartbeats 1000000 in
theorem indexI_any (A : Option Addr) (n c : Nat) (m : List Int) (b : Int) (hn : n ≤ 10000000) (w : World) (hr : Reads w w.heap.size 1 A n (IV m)) :
    Calls Try.prog 70 #[.slice A n c, .int .i64 b] w fun e w' => ∃ r : Int, e = .returned (.int .i64 r) ∧ hasI m b = decide (0 ≤ r) ∧ w = w' := by
  have hl : m.length = n := by have := hr.1; rw [IV_length] at this; omega
  have Hl := Lib.hid hl
  have Hr := Lib.hid hr
  clear hr hl
  go_enter Try.func70, Try.ntmps70
  go_wp2
  go_loopw [8] (fun i wr => ∃ j : Nat, j ≤ n ∧ i = .int .i64 j ∧ Hid (∀ (k : Nat) (hk : k < m.length), k < j → m[k] ≠ b) ∧ w = wr) (fun i _ => n - (intOf i).toNat)
  case atStart => exact ⟨0, by omega, rfl, fun k _ h => by omega, rfl⟩
  case round =>
    obtain ⟨j, hj, rfl, HN, rfl⟩ := hrel
    by_cases hlt : j < n
    · obtain ⟨hkx, ad, rfl, _, z0⟩ := reads_num Hr.out hlt
      have q0 : (0 : Int) ≤ ↑j := by omega
      have q1 : (↑j : Int) < ↑n := by omega
      by_cases he : m[j] = b
      · have HH := Lib.hid (show hasI m b = true by rw [← he]; exact hasI_hit hkx)
        rw [he] at z0
        clear he
        go_wp2
        go_ret
        exact ⟨_, rfl, by rw [HH.out]; simp, rfl⟩
      · have h2 : (b == m[j]) = false := by rw [beq_eq_false_iff_ne]; exact fun e => he e.symm
        have HN2 := Lib.hid (show ∀ (k : Nat) (hk : k < m.length), k < j + 1 → m[k] ≠ b from fun k hk h => by
          by_cases e : k = j
          · subst e; exact he
          · exact HN.out k hk (by omega))
        obtain ⟨x, hx⟩ : ∃ x, m[j] = x := ⟨_, rfl⟩
        rw [hx] at z0 h2
        clear he hx
        go_wp2
        go_roundw
        case rel => exact ⟨j + 1, by omega, by go_num, HN2.out, by first | rfl | trivial⟩
        case measure => simp [intOf]; omega
    · have HH := Lib.hid (show hasI m b = false from hasI_none fun k hk => HN.out k hk (by have := Hl.out; omega))
      go_wp2
      go_ret
      exact ⟨_, rfl, by rw [HH.out]; rfl, rfl⟩

set_option maxHeartbeats 400000 in
theorem containsI_anyx (A : Option Addr) (n c : Nat) (m : List Int) (b : Int) (hn : n ≤ 10000000) (w : World) (hr : Reads w w.heap.size 1 A n (IV m)) :
    Calls Try.prog 63 #[.slice A n c, .int .i64 b] w fun e w' => e = .returned (.bool (hasI m b)) ∧ w = w' := by
  have HC := Lib.hid (indexI_any A n c m b hn w hr)
  clear hr
  go_enter Try.func63, Try.ntmps63
  go_wp2_with fail
  refine HC.out.mono ?_
  rintro e w' ⟨r, rfl, hr, rfl⟩
  have Hr := Lib.hid hr
  clear hr
  by_cases h : 0 ≤ r
  · go_wp2
    go_ret
    exact ⟨by rw [Hr.out]; simp [h], rfl⟩
  · have h2 : decide (0 ≤ r) = false := by simpa using h
    go_wp2
    go_ret
    exact ⟨by rw [Hr.out, h2]; first | rfl | simp [h], rfl⟩

set_option maxRecDepth 100000 in
set_option maxHeartbeats 1000000 in
theorem has_spec (A : Option Addr) (n c : Nat) (m : List Int) (b : Int) (hn : n ≤ 10000000) (w : World) (hr : Reads w w.heap.size 1 A n (IV m)) :
    Calls Try.prog 54 #[.slice A n c, .int .i64 b] w fun e w' => e = .returned (.bool (hasI m b)) ∧ w = w' := by
  have hl : m.length = n := by have := hr.1; rw [IV_length] at this; omega
  have Hl := Lib.hid hl
  have Hr := Lib.hid hr
  clear hr hl
  go_enter Try.func54, Try.ntmps54
  go_wp2
  go_loopw [5] (fun i wr => ∃ j : Nat, j ≤ n ∧ i = .int .i64 j ∧ Hid (∀ (k : Nat) (hk : k < m.length), k < j → m[k] ≠ b) ∧ w = wr) (fun i _ => n - (intOf i).toNat)
  case atStart => exact ⟨0, by omega, rfl, fun k _ h => by omega, rfl⟩
  case round =>
    obtain ⟨j, hj, rfl, HN, rfl⟩ := hrel
    by_cases hlt : j < n
    · obtain ⟨hkx, ad, rfl, _, z0⟩ := reads_num Hr.out hlt
      have q0 : (0 : Int) ≤ ↑j := by omega
      have q1 : (↑j : Int) < ↑n := by omega
      by_cases he : m[j] = b
      · have HH := Lib.hid (show hasI m b = true by rw [← he]; exact hasI_hit hkx)
        rw [he] at z0
        clear he
        go_wp2
        go_ret
        exact ⟨by rw [HH.out]; rfl, rfl⟩
      · have h2 : (m[j] == b) = false := by rw [beq_eq_false_iff_ne]; exact he
        have HN2 := Lib.hid (show ∀ (k : Nat) (hk : k < m.length), k < j + 1 → m[k] ≠ b from fun k hk h => by
          by_cases e : k = j
          · subst e; exact he
          · exact HN.out k hk (by omega))
        obtain ⟨x, hx⟩ : ∃ x, m[j] = x := ⟨_, rfl⟩
        rw [hx] at z0 h2
        clear he hx
        go_wp2
        go_roundw
        case rel => exact ⟨j + 1, by omega, by go_num, HN2.out, by first | rfl | trivial⟩
        case measure => simp [intOf]; omega
    · have HH := Lib.hid (show hasI m b = false from hasI_none fun k hk => HN.out k hk (by have := Hl.out; omega))
      go_wp2
      go_ret
      exact ⟨by rw [HH.out]; rfl, rfl⟩

def PutPost (w : World) (xs : List ExtD) (i b : Nat) (e : Ending) (w' : World) : Prop :=
  ∃ (v : Value) (ok : Bool), e = .returned (.tuple #[v, .bool ok]) ∧ w'.ownsRow w.heap.size 76 3 v (putP xs i b).length (XS (putP xs i b)) ∧ Below w.heap.size w w'
theorem putPost_of {w w' : World} {xs : List ExtD} {i b : Nat} {e : Ending} {v : Value} {ok : Bool} (he : e = .returned (.tuple #[v, .bool ok])) (ho : w'.ownsRow w.heap.size 76 3 v (putP xs i b).length (XS (putP xs i b))) (hb : Below w.heap.size w w') : PutPost w xs i b e w' :=
  ⟨v, ok, he, ho, hb⟩
theorem own_reads0 {w : World} {b : Nat} {e : TypeId} {s n c : Nat} {A : Option Addr} {xs : List Value} (h : w.ownsRow b e s (.slice A n c) n xs) : Reads w w.heap.size s A n xs := by
  obtain ⟨A', c', he, _, _, h⟩ := own_vals h
  simp only [Value.slice.injEq] at he
  obtain ⟨rfl, _, _⟩ := he
  exact h

set_option maxRecDepth 100000 in
set_option maxHeartbeats 4000000 in
theorem putBlock_impl (A : Option Addr) (n c : Nat) (xs : List ExtD) (hn : n ≤ 10000000) (i b : Nat) (hi : i < 12) (hb : b < 24) (w : World) (hr : Reads w w.heap.size 3 A n (XS xs)) :
    Calls Try.prog 37 #[.slice A n c, .int .i64 i, .int .i64 b] w (PutPost w xs i b) := by
  have hl : xs.length = n := by have := hr.1; rw [XS_length] at this; omega
  have Hl := Lib.hid hl
  have Hr := Lib.hid (fun (W : World) (hb : Below w.heap.size w W) => (hr.below hb).more hb.size)
  clear hr hl
  have q0 : (0 : Int) ≤ ↑i := by omega
  have q1 : (↑i : Int) < 12 := by omega
  have q2 : (0 : Int) ≤ ↑b := by omega
  have q3 : (↑b : Int) ≤ 23 := by omega
  have hin : inI i 0 11 = true := inI_true.2 (by omega)
  have hbn : inI b 0 23 = true := inI_true.2 (by omega)
  cases hE : extsOkB xs
  · have HP := Lib.hid (show putP xs i b = [] by unfold putP; rw [if_pos hE])
    have Hx := Lib.hid hE
    have Own0 := Lib.hid (fun (W : World) => World.ownsRow_lit (e := 76) (size := 3) W #[] 0 (Nat.le_refl _) (by unfold maxLen; omega) rfl)
    clear hE
    go_enter Try.func37, Try.ntmps37
    go_wp2_with fail
    refine (extsOk_impl A n c xs hn w (Hr.out w (bel0 w))).mono ?_
    rintro e w1 ⟨rfl, hb1⟩
    rw [Hx.out]
    go_wp2
    go_ret2
    exact putPost_of rfl (by rw [HP.out]; exact World.ownsRow_nil _ _ _ _) (hb1)
  · have hall := extsOk_all hE
    have Hall := Lib.hid hall
    have HP := Lib.hid (show putP xs i b = if 0 ≤ (flatP xs).getD i (-1) ∨ (b : Int) ∈ flatP xs then xs else extP ((flatP xs).set i b) by unfold putP; rw [hE]; rfl)
    have Hx := Lib.hid hE
    clear hE hall
    go_enter Try.func37, Try.ntmps37
    go_wp2_with fail
    refine (extsOk_impl A n c xs hn w (Hr.out w (bel0 w))).mono ?_
    rintro e w1 ⟨rfl, hb1⟩
    rw [Hx.out]
    go_wp2_with fail
    refine (flat_impl A n c xs Hall.out hn _ (Hr.out _ hb1)).mono ?_
    rintro e w2 ⟨v, rfl, hown, hb2⟩
    have HB2 := Lib.hid (belN hb1 hb2)
    obtain ⟨g, cv, rfl⟩ := own_form1 hown (by omega)
    have hfl := flatP_len xs
    have hFb := flatP_bd Hall.out
    obtain ⟨M, hM⟩ : ∃ M, flatP xs = M := ⟨_, rfl⟩
    rw [hM] at hown hfl HP hFb
    have HV := getD_at (m := M) (j := i) (by omega)
    have Hown := Lib.hid hown
    have z0 : w2.cell? ⟨g, i, none⟩ = some (.int .i64 (M[i]'(by omega))) := by rw [hown.cellAt i (by omega)]; exact IV_get _ _ (by omega)
    have hgg := own_ltX hown
    have hRM := Lib.hid (own_vals hown)
    obtain ⟨x, hx⟩ : ∃ x, M[i]'(by omega) = x := ⟨_, rfl⟩
    rw [hx] at z0 HV
    rw [HV] at HP
    have Hfb := Lib.hid hFb
    have Hfl := Lib.hid hfl
    clear hx hown hM HV hFb hfl
    have HApp := Lib.hid (fun (W : World) (hbW : Below w.heap.size w W) => Hr.out W hbW)
    by_cases hx0 : 0 ≤ x
    · have HQ := Lib.hid (show putP xs i b = xs by rw [HP.out, if_pos (.inl hx0)])
      go_wp2_with fail
      refine (within_any _ _ _ _).mono ?_
      rintro e w' ⟨rfl, rfl⟩
      rw [hin]
      go_wp2_with (at_builtin; go_must (refine wpList_app _ rfl _ _ _ rfl Try.el_ext (World.ownsRow_nil _ w2.heap.size _ _) rfl (HApp.out _ HB2.out) rfl (XS_cells xs) (max_small (by omega)) (by omega) (by first | omega | (simp; done) | (simp; omega)) ?_); intro v1 w3 own3 hg3 _ hb3)
      go_ret2
      exact putPost_of rfl (by rw [HQ.out, Hl.out]; simpa using own_more own3 (by have := HB2.out.size; omega)) (belN HB2.out hb3)
    · have hx1 : decide (0 ≤ x) = false := by simpa using hx0
      cases hh : hasI M b
      · have HQ := Lib.hid (show putP xs i b = extP (M.set i b) by rw [HP.out, if_neg (fun h => h.elim hx0 fun h => by rw [hasI_true.2 h] at hh; cases hh)])
        have UN := Lib.hid (own_iset Hown.out i b)
        have HN := Lib.hid (show ∀ x ∈ M.set i (b : Int), -1 ≤ x ∧ x ≤ 23 from fun x hx => by
          rcases List.mem_or_eq_of_mem_set hx with h | h
          · exact Hfb.out x h
          · omega)
        have f0 := own_frozen Hown.out i
        go_wp2_with fail
        refine (within_any _ _ _ _).mono ?_
        rintro e w' ⟨rfl, rfl⟩
        rw [hin]
        go_wp2_with fail
        refine (within_any _ _ _ _).mono ?_
        rintro e w' ⟨rfl, rfl⟩
        rw [hbn]
        go_wp2_with fail
        refine (containsI_anyx _ _ _ M b (by omega) _ (own_reads0 Hown.out)).mono ?_
        rintro e w' ⟨rfl, rfl⟩
        rw [hh]
        go_wp2_with fail
        refine (exts_impl _ _ (M.set i b) HN.out _ (own_reads0 UN.out)).mono ?_
        rintro e w3 ⟨v3, rfl, own3, hb3⟩
        go_wp2
        go_ret2
        exact putPost_of rfl (by rw [HQ.out]; exact own_more own3 (by have := HB2.out.size; simpa using this)) (belN (belC HB2.out _ _ (by have := hgg.1; have := hb1.size; omega) _) hb3)
      · have HQ := Lib.hid (show putP xs i b = xs by rw [HP.out, if_pos (.inr (hasI_true.1 hh))])
        go_wp2_with fail
        refine (within_any _ _ _ _).mono ?_
        rintro e w' ⟨rfl, rfl⟩
        rw [hin]
        go_wp2_with fail
        refine (within_any _ _ _ _).mono ?_
        rintro e w' ⟨rfl, rfl⟩
        rw [hbn]
        go_wp2_with fail
        refine (containsI_anyx _ _ _ M b (by omega) _ (own_reads0 Hown.out)).mono ?_
        rintro e w' ⟨rfl, rfl⟩
        rw [hh]
        go_wp2_with (at_builtin; go_must (refine wpList_app _ rfl _ _ _ rfl Try.el_ext (World.ownsRow_nil _ w2.heap.size _ _) rfl (HApp.out _ HB2.out) rfl (XS_cells xs) (max_small (by omega)) (by omega) (by first | omega | (simp; done) | (simp; omega)) ?_); intro v1 w3 own3 hg3 _ hb3)
        go_ret2
        exact putPost_of rfl (by rw [HQ.out, Hl.out]; simpa using own_more own3 (by have := HB2.out.size; omega)) (belN HB2.out hb3)

set_option maxRecDepth 100000 in
set_option maxHeartbeats 4000000 in
theorem putBlock_spec (A : Option Addr) (n c : Nat) (xs : List ExtD) (hn : n ≤ 10000000) (i b : Nat) (hi : i < 12) (hb : b < 24) (w : World) (hr : Reads w w.heap.size 3 A n (XS xs)) :
    Calls Try.prog 25 #[.slice A n c, .int .i64 i, .int .i64 b] w (PutPost w xs i b) := by
  have hl : xs.length = n := by have := hr.1; rw [XS_length] at this; omega
  have Hl := Lib.hid hl
  have Hr := Lib.hid (fun (W : World) (hb : Below w.heap.size w W) => (hr.below hb).more hb.size)
  clear hr hl
  have q0 : (0 : Int) ≤ ↑i := by omega
  have q1 : (↑i : Int) < 12 := by omega
  have q2 : (0 : Int) ≤ ↑b := by omega
  have q3 : (↑b : Int) ≤ 23 := by omega
  have hin : inI i 0 11 = true := inI_true.2 (by omega)
  have hbn : inI b 0 23 = true := inI_true.2 (by omega)
  cases hE : extsOkB xs
  · have HP := Lib.hid (show putP xs i b = [] by unfold putP; rw [if_pos hE])
    have Hx := Lib.hid hE
    have Own0 := Lib.hid (fun (W : World) => World.ownsRow_lit (e := 76) (size := 3) W #[] 0 (Nat.le_refl _) (by unfold maxLen; omega) rfl)
    clear hE
    go_enter Try.func25, Try.ntmps25
    go_wp2_with fail
    refine (extsOk_spec A n c xs hn w (Hr.out w (bel0 w))).mono ?_
    rintro e w1 ⟨rfl, hb1⟩
    rw [Hx.out]
    go_wp2
    go_ret2
    exact putPost_of rfl (by rw [HP.out]; exact own_more (Own0.out w1) hb1.size) (belA hb1 _)
  · have hall := extsOk_all hE
    have Hall := Lib.hid hall
    have HP := Lib.hid (show putP xs i b = if 0 ≤ (flatP xs).getD i (-1) ∨ (b : Int) ∈ flatP xs then xs else extP ((flatP xs).set i b) by unfold putP; rw [hE]; rfl)
    have Hx := Lib.hid hE
    clear hE hall
    go_enter Try.func25, Try.ntmps25
    go_wp2_with fail
    refine (extsOk_spec A n c xs hn w (Hr.out w (bel0 w))).mono ?_
    rintro e w1 ⟨rfl, hb1⟩
    rw [Hx.out]
    go_wp2_with fail
    refine (map_spec A n c xs Hall.out hn _ (Hr.out _ hb1)).mono ?_
    rintro e w2 ⟨rfl, hown, hb2⟩
    have HB2 := Lib.hid (belN hb1 hb2)
    obtain ⟨g, hg⟩ : ∃ g, w1.heap.size = g := ⟨_, rfl⟩
    obtain ⟨cv, hcv⟩ : ∃ cv, cv = 12 := ⟨_, rfl⟩
    have hown : w2.ownsRow w1.heap.size 3 1 (.slice (some ⟨g, 0, none⟩) 12 12) 12 (IV (flatP xs)) := by rw [← hg]; exact hown
    rw [hg]
    clear hg hcv
    have hfl := flatP_len xs
    have hFb := flatP_bd Hall.out
    obtain ⟨M, hM⟩ : ∃ M, flatP xs = M := ⟨_, rfl⟩
    rw [hM] at hown hfl HP hFb
    have HV := getD_at (m := M) (j := i) (by omega)
    have Hown := Lib.hid hown
    have z0 : w2.cell? ⟨g, i, none⟩ = some (.int .i64 (M[i]'(by omega))) := by rw [hown.cellAt i (by omega)]; exact IV_get _ _ (by omega)
    have hgg := own_ltX hown
    have hRM := Lib.hid (own_vals hown)
    obtain ⟨x, hx⟩ : ∃ x, M[i]'(by omega) = x := ⟨_, rfl⟩
    rw [hx] at z0 HV
    rw [HV] at HP
    have Hfb := Lib.hid hFb
    have Hfl := Lib.hid hfl
    clear hx hown hM HV hFb hfl
    have HApp := Lib.hid (fun (W : World) (hbW : Below w.heap.size w W) => Hr.out W hbW)
    by_cases hx0 : 0 ≤ x
    · have HQ := Lib.hid (show putP xs i b = xs by rw [HP.out, if_pos (.inl hx0)])
      skip
      go_wp2_with (at_builtin; go_must (refine wpList_app _ rfl _ _ _ rfl Try.el_ext (World.ownsRow_lit (e := 76) (size := 3) w2 #[] 0 (Nat.le_refl _) (by unfold maxLen; omega) rfl) rfl (HApp.out _ (belA HB2.out _)) rfl (XS_cells xs) (max_small (by omega)) (by omega) (by first | omega | (simp; done) | (simp; omega)) ?_); intro v1 w3 own3 hg3 _ hb3)
      go_ret2
      exact putPost_of rfl (by rw [HQ.out, Hl.out]; simpa using own_more own3 (by have := HB2.out.size; omega)) ((belA HB2.out _).trans (hb3.mono HB2.out.size))
    · have hx1 : decide (0 ≤ x) = false := by simpa using hx0
      cases hh : hasI M b
      · have HQ := Lib.hid (show putP xs i b = extP (M.set i b) by rw [HP.out, if_neg (fun h => h.elim hx0 fun h => by rw [hasI_true.2 h] at hh; cases hh)])
        have UN := Lib.hid (own_iset Hown.out i b)
        have HN := Lib.hid (show ∀ x ∈ M.set i (b : Int), -1 ≤ x ∧ x ≤ 23 from fun x hx => by
          rcases List.mem_or_eq_of_mem_set hx with h | h
          · exact Hfb.out x h
          · omega)
        have f0 := own_frozen Hown.out i
        go_wp2_with fail
        refine (l1In_any _ _ _ _).mono ?_
        rintro e w' ⟨rfl, rfl⟩
        rw [hbn]
        go_wp2_with fail
        refine (has_spec _ _ _ M b (by omega) _ (own_reads0 Hown.out)).mono ?_
        rintro e w' ⟨rfl, rfl⟩
        rw [hh]
        go_wp2_with fail
        refine (exts_spec _ _ (M.set i b) HN.out _ (own_reads0 UN.out)).mono ?_
        rintro e w3 ⟨v3, rfl, own3, hb3⟩
        go_wp2
        go_ret2
        exact putPost_of rfl (by rw [HQ.out]; exact own_more own3 (by have := HB2.out.size; simpa using this)) (belN (belC HB2.out _ _ (by have := hgg.1; have := hb1.size; omega) _) hb3)
      · have HQ := Lib.hid (show putP xs i b = xs by rw [HP.out, if_pos (.inr (hasI_true.1 hh))])
        go_wp2_with fail
        refine (l1In_any _ _ _ _).mono ?_
        rintro e w' ⟨rfl, rfl⟩
        rw [hbn]
        go_wp2_with fail
        refine (has_spec _ _ _ M b (by omega) _ (own_reads0 Hown.out)).mono ?_
        rintro e w' ⟨rfl, rfl⟩
        rw [hh]
        go_wp2_with (at_builtin; go_must (refine wpList_app _ rfl _ _ _ rfl Try.el_ext (World.ownsRow_lit (e := 76) (size := 3) w2 #[] 0 (Nat.le_refl _) (by unfold maxLen; omega) rfl) rfl (HApp.out _ (belA HB2.out _)) rfl (XS_cells xs) (max_small (by omega)) (by omega) (by first | omega | (simp; done) | (simp; omega)) ?_); intro v1 w3 own3 hg3 _ hb3)
        go_ret2
        exact putPost_of rfl (by rw [HQ.out, Hl.out]; simpa using own_more own3 (by have := HB2.out.size; omega)) ((belA HB2.out _).trans (hb3.mono HB2.out.size))

end Go.Proofs.Ytajgenjfhcapjaa
