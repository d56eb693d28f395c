/- Pages: right ones, found entries, of both sides. -/
import Derived.Test.YtbchbmcphbeikaaGreatDoorPages
import Derived.BigQuiet
namespace Go.Proofs.YtbchbmcphbeikaaGreatDoor
open Go Go.RowKit

theorem Tryz.el_ent : ElemOk Tryz.prog 30 40 (.agg #[.int .i64 0, .int .i64 0, .string ⟨#[]⟩, .int .i64 0]) 4 40 := ⟨Tryz.underlying30, by kernel_rfl, rfl, by omega⟩

/-- An entry stands behind a place; ahead of it. -/
def behB (e : EntD) (h i : Int) : Bool := decide (h < e.h) || (decide (e.h = h) && decide (i < e.i))
def lessB (e : EntD) (h i : Int) : Bool := decide (e.h < h) || (decide (e.h = h) && decide (e.i < i))
theorem less_beh (a b : EntD) : lessB a b.h b.i = behB b a.h a.i := by
  unfold lessB behB
  rw [show (decide (a.h = b.h)) = decide (b.h = a.h) from by simp [eq_comm]]

set_option maxHeartbeats 1000000 in
theorem isBehind_any (e : EntD) (x y : Int) (w : World) :
    Calls Tryz.prog 55 #[e.val, .int .i64 x, .int .i64 y] w fun r w' => r = .returned (.bool (behB e x y)) ∧ Below w.heap.size w w' := by
  obtain ⟨h, i, s, d⟩ := e
  simp only [EntD.val]
  by_cases h1 : x < h
  · have Hf := Lib.hid (show behB ⟨h, i, s, d⟩ x y = true by simp [behB, h1])
    go_enter Tryz.func55, Tryz.ntmps55
    go_wp2
    go_ret
    exact ⟨ret_bool Hf.out.symm, belA (bel0 w) _⟩
  · by_cases h2 : h = x
    · have h2' : (h == x) = true := by simp [h2]
      by_cases h3 : y < i
      · have Hf := Lib.hid (show behB ⟨h, i, s, d⟩ x y = true by simp [behB, h2, h3])
        clear h2
        go_enter Tryz.func55, Tryz.ntmps55
        go_wp2
        go_ret
        exact ⟨ret_bool Hf.out.symm, belA (bel0 w) _⟩
      · have Hf := Lib.hid (show behB ⟨h, i, s, d⟩ x y = false by simp [behB]; omega)
        clear h2
        go_enter Tryz.func55, Tryz.ntmps55
        go_wp2
        go_ret
        exact ⟨ret_bool Hf.out.symm, belA (bel0 w) _⟩
    · have h2' : (h == x) = false := by simp [h2]
      have Hf := Lib.hid (show behB ⟨h, i, s, d⟩ x y = false by simp [behB]; omega)
      clear h2
      go_enter Tryz.func55, Tryz.ntmps55
      go_wp2
      go_ret
      exact ⟨ret_bool Hf.out.symm, belA (bel0 w) _⟩

set_option maxHeartbeats 1000000 in
theorem l5Less_any (e : EntD) (x y : Int) (w : World) :
    Calls Tryz.prog 39 #[e.val, .int .i64 x, .int .i64 y] w fun r w' => r = .returned (.bool (lessB e x y)) ∧ Below w.heap.size w w' := by
  obtain ⟨h, i, s, d⟩ := e
  simp only [EntD.val]
  by_cases h1 : h < x
  · have Hf := Lib.hid (show lessB ⟨h, i, s, d⟩ x y = true by simp [lessB, h1])
    go_enter Tryz.func39, Tryz.ntmps39
    go_wp2
    go_ret
    exact ⟨ret_bool Hf.out.symm, belA (bel0 w) _⟩
  · by_cases h2 : h = x
    · have h2' : (h == x) = true := by simp [h2]
      by_cases h3 : i < y
      · have Hf := Lib.hid (show lessB ⟨h, i, s, d⟩ x y = true by simp [lessB, h2, h3])
        clear h2
        go_enter Tryz.func39, Tryz.ntmps39
        go_wp2
        go_ret
        exact ⟨ret_bool Hf.out.symm, belA (bel0 w) _⟩
      · have Hf := Lib.hid (show lessB ⟨h, i, s, d⟩ x y = false by simp [lessB]; omega)
        clear h2
        go_enter Tryz.func39, Tryz.ntmps39
        go_wp2
        go_ret
        exact ⟨ret_bool Hf.out.symm, belA (bel0 w) _⟩
    · have h2' : (h == x) = false := by simp [h2]
      have Hf := Lib.hid (show lessB ⟨h, i, s, d⟩ x y = false by simp [lessB]; omega)
      clear h2
      go_enter Tryz.func39, Tryz.ntmps39
      go_wp2
      go_ret
      exact ⟨ret_bool Hf.out.symm, belA (bel0 w) _⟩

/-- A page of so many is right. -/
def pgB (m : Nat) (l : List EntD) : Bool := inI l.length 1 4 && !(decide (1 < m) && decide (l.length < 2))
/-- Entries stand in order. -/
def Ord (l : List EntD) : Prop := ∀ (i : Nat) (h : i + 1 < l.length), behB l[i + 1] l[i].h l[i].i = true
def OkP (ps : List (List EntD)) : Prop := ps.length ≤ 8 ∧ (∀ l ∈ ps, pgB ps.length l = true) ∧ Ord ps.flatten
noncomputable def okPB (ps : List (List EntD)) : Bool := @decide (OkP ps) (Classical.propDecidable _)
theorem okPB_iff {ps : List (List EntD)} : okPB ps = true ↔ OkP ps := @decide_eq_true_iff _ (Classical.propDecidable _)
theorem okPB_true {ps : List (List EntD)} (h : OkP ps) : okPB ps = true := okPB_iff.2 h
theorem okPB_false {ps : List (List EntD)} (h : ¬ OkP ps) : okPB ps = false := by
  cases hb : okPB ps with
  | false => rfl
  | true => exact absurd (okPB_iff.1 hb) h
theorem flat_take_succ (ps : List (List EntD)) (j : Nat) (h : j < ps.length) : (ps.take (j + 1)).flatten = (ps.take j).flatten ++ ps[j] := by
  rw [List.take_succ_eq_append_getElem h, List.flatten_append]; simp
theorem flat_take_le (ps : List (List EntD)) (j : Nat) : (ps.take j).flatten.length ≤ ps.flatten.length := by
  conv => rhs; rw [← List.take_append_drop j ps, List.flatten_append, List.length_append]
  omega

set_option maxRecDepth 100000 in
set_option maxHeartbeats 2000000 in
theorem rowOf_any (A : Option Addr) (n c : Nat) (ps : List (List EntD)) (hz : ps.flatten.length ≤ 10000000) (hn : n ≤ 10000000) (w : World) (hr : PagesAt w w.heap.size A n ps) :
    Calls Tryz.prog 57 #[.slice A n c] w fun e w' => ∃ v, e = .returned v ∧ w'.ownsRow w.heap.size 40 4 v ps.flatten.length (ES ps.flatten) ∧ Below w.heap.size w w' := by
  have hl := hr.len
  have Hr := Lib.hid hr
  clear hr
  go_enter Tryz.func57, Tryz.ntmps57
  go_wp2
  go_loopw [3, 9] (fun v i wr => ∃ (j : Nat), j ≤ n ∧ i = .int .i64 j ∧ wr.ownsRow w.heap.size 40 4 v (ps.take j).flatten.length (ES (ps.take j).flatten) ∧ Below w.heap.size w wr)
    (fun _ i _ => n - (intOf i).toNat)
  case atStart => exact ⟨0, by omega, rfl, World.ownsRow_lit w #[] 0 (Nat.le_refl _) (by unfold maxLen; omega) rfl, belA (bel0 w) _⟩
  case round =>
    obtain ⟨j, hj, rfl, hown, hbel⟩ := hrel
    have hsz := hbel.size
    by_cases hlt : j < n
    · obtain ⟨hkx, b, o, A', c', rfl, hadb, z0, hrow⟩ := (Hr.out.below hbel).at_ hlt
      have q0 : (0 : Int) ≤ ↑j := by omega
      have q1 : (↑j : Int) < ↑n := by omega
      have hfl := Lib.hid (flat_take_succ ps j hkx)
      have hle := flat_take_le ps (j + 1)
      rw [hfl.out, List.length_append] at hle
      go_wp2_with (at_builtin; go_must (refine wpList_app _ rfl _ _ _ rfl Tryz.el_ent hown rfl hrow rfl (ES_cells _) (by unfold maxLen; omega) (by omega) hsz ?_); intro v1 w1 own1 hg1 _ hb1)
      go_roundw
      case rel =>
        refine ⟨j + 1, by omega, by go_num, ?_, hbel.trans hb1⟩
        rw [hfl.out, List.length_append, ES_append]; exact own1
      case measure => simp [intOf]; omega
    · obtain rfl : j = n := by omega
      rw [List.take_of_length_le (by omega)] at hown
      go_wp2
      go_ret
      exact ⟨_, rfl, hown, hbel⟩

set_option maxRecDepth 100000 in
set_option maxHeartbeats 4000000 in
theorem pagesOk_impl (A : Option Addr) (n c : Nat) (ps : List (List EntD)) (hz : ps.flatten.length ≤ 10000000) (hn : n ≤ 10000000) (w : World) (hr : PagesAt w w.heap.size A n ps) :
    Calls Tryz.prog 46 #[.slice A n c] w fun e w' => e = .returned (.bool (okPB ps)) ∧ Below w.heap.size w w' := by
  have hl := hr.len
  have Hr := Lib.hid hr
  clear hr
  go_enter Tryz.func46, Tryz.ntmps46
  go_wp2
  go_loopw [9] (fun i wr => ∃ (j : Nat), j ≤ n ∧ i = .int .i64 j ∧ Hid (∀ l ∈ ps.take j, pgB n l = true) ∧ w = wr)
    (fun i _ => n - (intOf i).toNat)
  case atStart => exact ⟨0, by omega, rfl, by simp [Hid], rfl⟩
  case round =>
    obtain ⟨j, hj, rfl, hall, rfl⟩ := hrel
    by_cases hlt : j < n
    · obtain ⟨hkx, b, o, A', c', rfl, hadb, z0, hrow⟩ := Hr.out.at_ hlt
      have q0 : (0 : Int) ≤ ↑j := by omega
      have q1 : (↑j : Int) < ↑n := by omega
      have Hmem := Lib.hid (List.getElem_mem hkx)
      have hts := Lib.hid (List.take_succ_eq_append_getElem hkx)
      clear hrow
      obtain ⟨m, hm⟩ : ∃ m, ps[j].length = m := ⟨_, rfl⟩
      rw [hm] at z0
      have Hm := Lib.hid hm
      clear hm
      have fin : pgB n ps[j] = false → okPB ps = false := fun hf => okPB_false fun ho => by
        have := ho.2.1 _ Hmem.out
        rw [hl, hf] at this; cases this
      have Fin := Lib.hid fin
      clear fin
      have nxt : pgB n ps[j] = true → ∀ l ∈ ps.take (j + 1), pgB n l = true := fun hf l hx => by
        rw [hts.out, List.mem_append] at hx
        rcases hx with hx | hx
        · exact hall.out l hx
        · simp at hx; subst hx; exact hf
      have Nxt := Lib.hid nxt
      clear nxt
      rcases hin : inI (m : Int) 1 4 with _ | _
      · have Hf := Lib.hid (Fin.out (by unfold pgB; rw [Hm.out, hin]; rfl))
        go_wp2_with fail
        refine (within_any _ _ _ _).mono ?_
        rintro e w' ⟨rfl, rfl⟩
        go_wp2
        go_ret
        exact ⟨ret_bool Hf.out.symm, bel0 w⟩
      · by_cases h1 : 1 < n
        · by_cases h2 : m < 2
          · have Hf := Lib.hid (Fin.out (by unfold pgB; rw [Hm.out]; simp [h1, h2]))
            go_wp2_with fail
            refine (within_any _ _ _ _).mono ?_
            rintro e w' ⟨rfl, rfl⟩
            go_wp2
            go_ret
            exact ⟨ret_bool Hf.out.symm, bel0 w⟩
          · have Hn := Lib.hid (Nxt.out (by unfold pgB; rw [Hm.out]; simp [hin, h2]))
            go_wp2_with fail
            refine (within_any _ _ _ _).mono ?_
            rintro e w' ⟨rfl, rfl⟩
            go_wp2
            go_roundw
            case rel => exact ⟨j + 1, by omega, by go_num, Hn, by trivial⟩
            case measure => simp [intOf]; omega
        · have Hn := Lib.hid (Nxt.out (by unfold pgB; rw [Hm.out]; simp [hin, h1]))
          go_wp2_with fail
          refine (within_any _ _ _ _).mono ?_
          rintro e w' ⟨rfl, rfl⟩
          go_wp2
          go_roundw
          case rel => exact ⟨j + 1, by omega, by go_num, Hn, by trivial⟩
          case measure => simp [intOf]; omega
    · obtain rfl : j = n := by omega
      have Hall := Lib.hid (show ∀ l ∈ ps, pgB ps.length l = true by have := hall.out; rwa [List.take_of_length_le (by omega), ← hl] at this)
      clear hall
      go_wp2_with fail
      refine (rowOf_any A j c ps hz hn _ Hr.out).mono ?_
      rintro e w1 ⟨v, rfl, hown, hb1⟩
      obtain ⟨R, c1, rfl, _, _, hread⟩ := own_vals hown
      have Hread := Lib.hid hread
      obtain ⟨L, hL⟩ : ∃ L, ps.flatten = L := ⟨_, rfl⟩
      have HL := Lib.hid hL
      rw [hL] at hz Hread ⊢
      clear hL hown hread
      obtain ⟨N, hN⟩ : ∃ N, L.length = N := ⟨_, rfl⟩
      rw [hN] at hz Hread ⊢
      have HN := Lib.hid hN
      clear hN
      go_wp2
      go_loopw [6] (fun i wr => ∃ (k : Nat) (I : Int), Hid (I = k + 1) ∧ (k + 1 ≤ N ∨ k = 0) ∧ i = .int .i64 I ∧ Hid (∀ (i : Nat) (h : i + 1 < L.length), i < k → behB L[i + 1] L[i].h L[i].i = true) ∧ Below w1.heap.size w1 wr)
        (fun i _ => N - (intOf i).toNat)
      case atStart => exact ⟨0, 1, rfl, .inr rfl, rfl, fun i h hk => absurd hk (by omega), bel0 w1⟩
      case round =>
        obtain ⟨k, I, hI, hk, rfl, hord, hbel⟩ := hrel
        have hI' := hI.out
        by_cases hlt : k + 1 < N
        · obtain ⟨hkx, b, o, rfl, hadb, z0, z1, z2, z3⟩ := reads_ent (Hread.out.below hbel) hlt
          obtain ⟨hky, b', o', he, _, y0, y1, y2, y3⟩ := reads_ent (Hread.out.below hbel) (k := k) (by omega)
          injection he with he
          injection he with e1 e2
          subst e1
          subst e2
          have q1 : I < ↑N := by omega
          have q2 : (0 : Int) ≤ I := by omega
          have q3 : (k : Int) < ↑N := by omega
          have q4 : (0 : Int) ≤ (k : Int) := by omega
          have e1 : IntKind.i64.wrap (I - 1) = (k : Int) := by rw [IntKind.wrap_i64]; omega
          have e2 : I.toNat = k + 1 := by omega
          clear hI'
          have Hlx := Lib.hid (HN.out)
          rcases hbh : behB L[k + 1] L[k].h L[k].i with _ | _
          · have Hf := Lib.hid (okPB_false (ps := ps) fun ho => by
              have h3 := ho.2.2
              rw [HL.out] at h3
              have h4 := h3 k (by omega)
              rw [hbh] at h4; cases h4)
            go_wp2_with fail
            go_region_held3 (fun w' => w'.cell? ⟨b, o + (k + 1) * 4, none⟩ = some (.int .i64 L[k + 1].h) ∧ w'.cell? ⟨b, o + (k + 1) * 4 + 1, none⟩ = some (.int .i64 L[k + 1].i) ∧ w'.cell? ⟨b, o + (k + 1) * 4 + 2, none⟩ = some (.string L[k + 1].s) ∧ w'.cell? ⟨b, o + (k + 1) * 4 + 3, none⟩ = some (.int .i64 L[k + 1].d) ∧ w'.cell? ⟨b, o + k * 4, none⟩ = some (.int .i64 L[k].h) ∧ w'.cell? ⟨b, o + k * 4 + 1, none⟩ = some (.int .i64 L[k].i))
              (first | go_keep | (refine ⟨keep1 hb2 ?_, keep1 hb2 ?_, keep1 hb2 ?_, keep1 hb2 ?_, keep1 hb2 ?_, keep1 hb2 ?_⟩ <;> go_keep))
              (first
                | (go_at_call 55; refine (isBehind_any L[k + 1] _ _ _).mono ?_; rintro e w2 ⟨rfl, hb2⟩))
            go_wp2
            go_ret
            exact ⟨ret_bool Hf.out.symm, belN hb1 (belN hbel.drew hb2)⟩
          · go_wp2_with fail
            go_region_held3 (fun w' => w'.cell? ⟨b, o + (k + 1) * 4, none⟩ = some (.int .i64 L[k + 1].h) ∧ w'.cell? ⟨b, o + (k + 1) * 4 + 1, none⟩ = some (.int .i64 L[k + 1].i) ∧ w'.cell? ⟨b, o + (k + 1) * 4 + 2, none⟩ = some (.string L[k + 1].s) ∧ w'.cell? ⟨b, o + (k + 1) * 4 + 3, none⟩ = some (.int .i64 L[k + 1].d) ∧ w'.cell? ⟨b, o + k * 4, none⟩ = some (.int .i64 L[k].h) ∧ w'.cell? ⟨b, o + k * 4 + 1, none⟩ = some (.int .i64 L[k].i))
              (first | go_keep | (refine ⟨keep1 hb2 ?_, keep1 hb2 ?_, keep1 hb2 ?_, keep1 hb2 ?_, keep1 hb2 ?_, keep1 hb2 ?_⟩ <;> go_keep))
              (first
                | (go_at_call 55; refine (isBehind_any L[k + 1] _ _ _).mono ?_; rintro e w2 ⟨rfl, hb2⟩))
            go_wp2
            go_roundw
            case rel =>
              refine ⟨k + 1, I + 1, by have := hI.out; show _ = _; omega, by omega, by go_num, fun i h hi => ?_, belN hbel.drew hb2⟩
              rcases Nat.lt_or_ge i k with h1 | h1
              · exact hord.out i h h1
              · obtain rfl : i = k := by omega
                exact hbh
            case measure => have := hI.out; simp [intOf]; omega
        · have q1 : ¬ I < ↑N := by omega
          have hOrd : Ord L := fun i h => hord.out i h (by have := HN.out; omega)
          have hOk : 8 ≥ ps.length → OkP ps := fun h8 => ⟨h8, Hall.out, by rw [HL.out]; exact hOrd⟩
          have HOk := Lib.hid hOk
          clear hOk hOrd hord
          by_cases h8 : j ≤ 8
          · have Hf := Lib.hid (okPB_true (HOk.out (by omega)))
            go_wp2
            go_ret
            exact ⟨ret_bool (by rw [Hf.out]; exact decide_eq_true (by omega)), belN hb1 hbel⟩
          · have Hf := Lib.hid (okPB_false (ps := ps) fun ho => by have := ho.1; omega)
            go_wp2
            go_ret
            exact ⟨ret_bool (by rw [Hf.out]; exact decide_eq_false (by omega)), belN hb1 hbel⟩

/-- What the walk over the entries holds: the last one and whether there was none yet. -/
def Last (b : Bool) (L : EntD) (s : List EntD) : Prop := (b = true ∧ s = []) ∨ (b = false ∧ ∃ s', s = s' ++ [L])
theorem Ord.nil_ : Ord [] := fun i h => absurd h (by simp)
theorem Ord.snoc {s : List EntD} {x : EntD} {b : Bool} {L : EntD} (h : Ord s) (hl : Last b L s) (hx : b = false → behB x L.h L.i = true) : Ord (s ++ [x]) := by
  intro i hi
  rcases hl with ⟨rfl, rfl⟩ | ⟨rfl, s', rfl⟩
  · have : i + 1 < 1 := hi
    omega
  · by_cases h1 : i + 1 < (s' ++ [L]).length
    · have := h i h1
      rw [List.getElem_append_left h1, List.getElem_append_left (show i < (s' ++ [L]).length by omega)]
      exact this
    · have h2 : i = s'.length := by
        have z1 : (s' ++ [L] ++ [x]).length = s'.length + 2 := by simp
        have z2 : (s' ++ [L]).length = s'.length + 1 := by simp
        omega
      subst h2
      have e1 : (s' ++ [L] ++ [x])[s'.length + 1]'hi = x := by simp
      have e2 : (s' ++ [L] ++ [x])[s'.length]'(by simp) = L := by simp
      rw [e1, e2]
      exact hx rfl
theorem Ord.not {s r : List EntD} {x L : EntD} (hl : Last false L s) (hx : behB x L.h L.i = false) : ¬ Ord (s ++ x :: r) := by
  intro h
  rcases hl with ⟨h1, _⟩ | ⟨_, s', rfl⟩
  · cases h1
  · have h1 := h s'.length (by simp)
    have e1 : (s' ++ [L] ++ x :: r)[s'.length + 1]'(by simp) = x := by simp
    have e2 : (s' ++ [L] ++ x :: r)[s'.length]'(by simp) = L := by simp
    rw [e1, e2, hx] at h1
    cases h1
theorem Last.snoc (s : List EntD) (x : EntD) : Last false x (s ++ [x]) := .inr ⟨rfl, s, rfl⟩
theorem flat_at (ps : List (List EntD)) (j k : Nat) (hj : j < ps.length) (hk : k < ps[j].length) : ∃ r, ps.flatten = ((ps.take j).flatten ++ ps[j].take k) ++ ps[j][k] :: r := by
  refine ⟨ps[j].drop (k + 1) ++ (ps.drop (j + 1)).flatten, ?_⟩
  conv => lhs; rw [← List.take_append_drop j ps, List.flatten_append, List.drop_eq_getElem_cons hj, List.flatten_cons]
  have h0 : ps[j] = ps[j].take k ++ ps[j][k] :: ps[j].drop (k + 1) := by rw [← List.drop_eq_getElem_cons hk, List.take_append_drop]
  have h1 : ∀ r : List EntD, ps[j] ++ r = ps[j].take k ++ ps[j][k] :: (ps[j].drop (k + 1) ++ r) := fun r => (congrArg (· ++ r) h0).trans (by rw [List.append_assoc, List.cons_append])
  rw [h1, List.append_assoc]

set_option maxRecDepth 100000 in
set_option maxHeartbeats 2000000 in
theorem pagesOk_spec (A : Option Addr) (n c : Nat) (ps : List (List EntD)) (_hz : ps.flatten.length ≤ 10000000) (hn : n ≤ 10000000) (w : World) (hr : PagesAt w w.heap.size A n ps) :
    Calls Tryz.prog 30 #[.slice A n c] w fun e w' => e = .returned (.bool (okPB ps)) ∧ Below w.heap.size w w' := by
  have hl := hr.len
  have Hr := Lib.hid hr
  clear hr
  by_cases h8 : 8 < n
  · have Hf := Lib.hid (okPB_false (ps := ps) fun ho => by have := ho.1; omega)
    go_enter Tryz.func30, Tryz.ntmps30
    go_wp2
    go_ret
    exact ⟨ret_bool Hf.out.symm, bel0 w⟩
  · have h8' : ps.length ≤ 8 := by omega
    go_enter Tryz.func30, Tryz.ntmps30
    go_wp2
    go_loopw [4, 5] (fun f i wr => ∃ (j : Nat) (fb : Bool) (L : EntD), j ≤ n ∧ i = .int .i64 j ∧ f = .bool fb ∧ Hid (∀ l ∈ ps.take j, pgB n l = true) ∧ Hid (Ord (ps.take j).flatten) ∧ Hid (Last fb L (ps.take j).flatten) ∧
        Blk wr w.heap.size 40 #[.int .i64 L.h, .int .i64 L.i, .string L.s, .int .i64 L.d] ∧ Below w.heap.size w wr)
      (fun _ i _ => n - (intOf i).toNat)
    case atStart => exact ⟨0, true, ⟨-1, 0, ⟨#[]⟩, 0⟩, by omega, rfl, rfl, by simp [Hid], Ord.nil_, .inl ⟨rfl, rfl⟩, Blk.new' _ _ _ _, belA (bel0 w) _⟩
    case round =>
      obtain ⟨j, fb, L, hj, rfl, rfl, hall, hord, hlast, hblk, hbel⟩ := hrel
      by_cases hlt : j < n
      · obtain ⟨hkx, b, o, A', c', rfl, hadb, z0, hrow⟩ := Hr.out.at_ hlt
        have q0 : (0 : Int) ≤ ↑j := by omega
        have q1 : (↑j : Int) < ↑n := by omega
        have Hmem := Lib.hid (List.getElem_mem hkx)
        have hts := Lib.hid (List.take_succ_eq_append_getElem hkx)
        have Hrow := Lib.hid hrow
        clear hrow
        obtain ⟨l, hlj⟩ : ∃ l, ps[j] = l := ⟨_, rfl⟩
        have Hl := Lib.hid hlj
        rw [hlj] at z0 Hrow Hmem hts
        clear hlj
        obtain ⟨m, hm⟩ : ∃ m, l.length = m := ⟨_, rfl⟩
        rw [hm] at z0 Hrow
        have Hm := Lib.hid hm
        clear hm
        have Z0 := Lib.hid z0
        replace z0 := (hbel.cell (p := ⟨b, o + j, none⟩) hadb).trans z0
        have hflat := Lib.hid (flat_at ps j)
        have fin : pgB n l = false → okPB ps = false := fun hf => okPB_false fun ho => by
          have := ho.2.1 _ Hmem.out
          rw [hl, hf] at this; cases this
        have Fin := Lib.hid fin
        clear fin
        have nxt : pgB n l = true → ∀ l ∈ ps.take (j + 1), pgB n l = true := fun hf l' hx => by
          rw [hts.out, List.mem_append] at hx
          rcases hx with hx | hx
          · exact hall.out l' hx
          · simp at hx; subst hx; exact hf
        have Nxt := Lib.hid nxt
        clear nxt
        rcases hin : inI (m : Int) 1 4 with _ | _
        · have Hf := Lib.hid (Fin.out (by unfold pgB; rw [Hm.out, hin]; rfl))
          go_wp2_with fail
          refine (l1In_any _ _ _ _).mono ?_
          rintro e w' ⟨rfl, rfl⟩
          go_wp2
          go_ret
          exact ⟨ret_bool Hf.out.symm, hbel⟩
        · have hm4 : m ≤ 4 := by have := inI_true.1 hin; omega
          by_cases h12 : 1 < n ∧ m < 2
          · obtain ⟨h1, h2⟩ := h12
            have Hf := Lib.hid (Fin.out (by unfold pgB; rw [Hm.out]; simp [h1, h2]))
            go_wp2_with fail
            refine (l1In_any _ _ _ _).mono ?_
            rintro e w' ⟨rfl, rfl⟩
            go_wp2
            go_ret
            exact ⟨ret_bool Hf.out.symm, hbel⟩
          · have Hn := Lib.hid (Nxt.out (by unfold pgB; rw [Hm.out]; by_cases h1 : 1 < n <;> by_cases h2 : m < 2 <;> simp_all))
            have hw : ∀ (P : Prop), ((n : Int) ≤ 1 → P) → (1 < n → (2 : Int) ≤ m → P) → P := fun P f g => by
              by_cases h1 : 1 < n
              · exact g h1 (by omega)
              · exact f (by omega)
            have Hw := Lib.hid hw
            clear hw
            go_wp2_with fail
            refine (l1In_any _ _ _ _).mono ?_
            rintro e w' ⟨rfl, rfl⟩
            refine Hw.out _ (fun h1 => ?_) (fun h1 h2 => ?_)
            all_goals
              clear h12
              go_wp2
              rename World => wo
              go_loopw [4, 6] (fun f i wi => ∃ (k : Nat) (fb : Bool) (L : EntD), k ≤ m ∧ i = .int .i64 k ∧ f = .bool fb ∧ Hid (Ord ((ps.take j).flatten ++ l.take k)) ∧ Hid (Last fb L ((ps.take j).flatten ++ l.take k)) ∧
                  Blk wi w.heap.size 40 #[.int .i64 L.h, .int .i64 L.i, .string L.s, .int .i64 L.d] ∧ Below w.heap.size w wi)
                (fun _ i _ => m - (intOf i).toNat)
              case atStart => exact ⟨0, fb, L, by omega, rfl, rfl, by simpa [Hid] using hord.out, by simpa [Hid] using hlast.out, hblk, hbel⟩
              case round =>
                clear hblk z0 hord hlast hbel
                obtain ⟨k, fb1, L1, hk, rfl, rfl, hord, hlast, hblk, hbel⟩ := hrel
                have z0 := (hbel.cell (p := ⟨b, o + j, none⟩) hadb).trans Z0.out
                by_cases hlk : k < m
                · obtain ⟨hkl, b', o', rfl, hadb', y0, y1, y2, y3⟩ := reads_ent (Hrow.out.below hbel) hlk
                  have r0 : (0 : Int) ≤ ↑k := by omega
                  have r1 : (↑k : Int) < ↑m := by omega
                  have hne : b ≠ w.heap.size := by omega
                  have hne' : b' ≠ w.heap.size := by omega
                  have hts' := Lib.hid (List.take_succ_eq_append_getElem hkl)
                  obtain ⟨x, hx⟩ : ∃ x, l[k] = x := ⟨_, rfl⟩
                  rw [hx] at y0 y1 y2 y3 hts'
                  have Hx := Lib.hid hx
                  clear hx
                  have hlst := Lib.hid (Last.snoc ((ps.take j).flatten ++ l.take k) x)
                  have hblk2 := Lib.hid (fun (wn : World) (hb : Blk wn w.heap.size 40 #[.int .i64 L1.h, .int .i64 L1.i, .string L1.s, .int .i64 L1.d]) =>
                    (((hb.put 0 (.int .i64 x.h) #[.int .i64 x.h, .int .i64 L1.i, .string L1.s, .int .i64 L1.d] rfl).put 1 (.int .i64 x.i) #[.int .i64 x.h, .int .i64 x.i, .string L1.s, .int .i64 L1.d] rfl).put 2 (.string x.s) #[.int .i64 x.h, .int .i64 x.i, .string x.s, .int .i64 L1.d] rfl).put 3 (.int .i64 x.d) #[.int .i64 x.h, .int .i64 x.i, .string x.s, .int .i64 x.d] rfl)
                  have c0 := hblk.get 0 rfl
                  have c1 := hblk.get 1 rfl
                  have c2 := hblk.get 2 rfl
                  have c3 := hblk.get 3 rfl
                  have f0 := hblk.frozen 0
                  have f1 := hblk.frozen 1
                  have f2 := hblk.frozen 2
                  have f3 := hblk.frozen 3
                  rcases fb1 with _ | _
                  · rcases hbh : behB x L1.h L1.i with _ | _
                    · have Hf := Lib.hid (okPB_false (ps := ps) fun ho => by
                        have hkl' : k < ps[j].length := by rw [Hl.out]; exact hkl
                        obtain ⟨r, hr⟩ := hflat.out k hkx hkl'
                        have ho3 := ho.2.2
                        rw [hr] at ho3
                        have e1 : ps[j].take k = l.take k := by rw [Hl.out]
                        have e2 : ps[j][k] = x := by rw [← Hx.out]; simp only [Hl.out]
                        rw [e1, e2] at ho3
                        exact Ord.not hlast.out hbh ho3)
                      have hls : lessB L1 x.h x.i = false := by rw [less_beh]; exact hbh
                      clear hbh
                      go_wp2_with fail
                      go_region_held3 (fun w' => w'.cell? ⟨b, o + j, none⟩ = some (.slice (some ⟨b', o', none⟩) m c') ∧ w'.cell? ⟨b', o' + k * 4, none⟩ = some (.int .i64 x.h) ∧ w'.cell? ⟨b', o' + k * 4 + 1, none⟩ = some (.int .i64 x.i) ∧
                          w'.cell? ⟨w.heap.size, 0, none⟩ = some (.int .i64 L1.h) ∧ w'.cell? ⟨w.heap.size, 1, none⟩ = some (.int .i64 L1.i) ∧ w'.cell? ⟨w.heap.size, 2, none⟩ = some (.string L1.s) ∧ w'.cell? ⟨w.heap.size, 3, none⟩ = some (.int .i64 L1.d))
                        (first | go_keep | (refine ⟨keep1 hb2 ?_, keep1 hb2 ?_, keep1 hb2 ?_, keep1 hb2 ?_, keep1 hb2 ?_, keep1 hb2 ?_, keep1 hb2 ?_⟩ <;> go_keep))
                        (first
                          | (go_at_call 39; refine (l5Less_any L1 _ _ _).mono ?_; rintro e w2 ⟨rfl, hb2⟩))
                      go_wp2
                      go_ret
                      exact ⟨ret_bool Hf.out.symm, belN hbel.drew hb2⟩
                    · have Ho := Lib.hid (hord.out.snoc (x := x) hlast.out (fun _ => hbh))
                      have hls : lessB L1 x.h x.i = true := by rw [less_beh]; exact hbh
                      clear hbh
                      go_wp2_with fail
                      go_region_held3 (fun w' => w'.cell? ⟨b, o + j, none⟩ = some (.slice (some ⟨b', o', none⟩) m c') ∧ w'.cell? ⟨b', o' + k * 4, none⟩ = some (.int .i64 x.h) ∧ w'.cell? ⟨b', o' + k * 4 + 1, none⟩ = some (.int .i64 x.i) ∧
                          w'.cell? ⟨w.heap.size, 0, none⟩ = some (.int .i64 L1.h) ∧ w'.cell? ⟨w.heap.size, 1, none⟩ = some (.int .i64 L1.i) ∧ w'.cell? ⟨w.heap.size, 2, none⟩ = some (.string L1.s) ∧ w'.cell? ⟨w.heap.size, 3, none⟩ = some (.int .i64 L1.d))
                        (first | go_keep | (refine ⟨keep1 hb2 ?_, keep1 hb2 ?_, keep1 hb2 ?_, keep1 hb2 ?_, keep1 hb2 ?_, keep1 hb2 ?_, keep1 hb2 ?_⟩ <;> go_keep))
                        (first
                          | (go_at_call 39; refine (l5Less_any L1 _ _ _).mono ?_; rintro e w2 ⟨rfl, hb2⟩))
                      have hbel2 := belN hbel.drew hb2
                      have z0' := keep1 hb2 z0
                      have y0' := keep1 hb2 y0
                      have y1' := keep1 hb2 y1
                      have y2' := keep1 hb2 y2
                      have y3' := keep1 hb2 y3
                      have hblk' := hblk.drew.below hb2 hblk.lt
                      clear z0 y0 y1 y2 y3 c0 c1 c2 c3 f0 f1 f2 f3
                      have c0 := hblk'.get 0 rfl
                      have c1 := hblk'.get 1 rfl
                      have c2 := hblk'.get 2 rfl
                      have c3 := hblk'.get 3 rfl
                      have f0 := hblk'.frozen 0
                      have f1 := hblk'.frozen 1
                      have f2 := hblk'.frozen 2
                      have f3 := hblk'.frozen 3
                      go_wp2
                      go_roundw
                      case rel =>
                        refine ⟨k + 1, false, x, by omega, by go_num, rfl, ?_, ?_, hblk2.out _ hblk', belC (belC (belC (belC hbel2 _ _ (Nat.le_refl _) _) _ _ (Nat.le_refl _) _) _ _ (Nat.le_refl _) _) _ _ (Nat.le_refl _) _⟩
                        · show Ord _; rw [hts'.out, ← List.append_assoc]; exact Ho.out
                        · show Last _ _ _; rw [hts'.out, ← List.append_assoc]; exact hlst.out
                      case measure => simp [intOf]; omega
                  · have Ho := Lib.hid (hord.out.snoc (x := x) hlast.out (fun h => by cases h))
                    go_wp2_with fail
                    go_quiet (fail)
                    go_wp2
                    go_roundw
                    case rel =>
                      refine ⟨k + 1, false, x, by omega, by go_num, rfl, ?_, ?_, hblk2.out _ (hblk.drewN _), belC (belC (belC (belC (below_drewN hbel _) _ _ (Nat.le_refl _) _) _ _ (Nat.le_refl _) _) _ _ (Nat.le_refl _) _) _ _ (Nat.le_refl _) _⟩
                      · show Ord _; rw [hts'.out, ← List.append_assoc]; exact Ho.out
                      · show Last _ _ _; rw [hts'.out, ← List.append_assoc]; exact hlst.out
                    case measure => simp [intOf]; omega
                · obtain rfl : k = m := by omega
                  have hfs := Lib.hid (show (ps.take (j + 1)).flatten = (ps.take j).flatten ++ l.take k by
                    rw [hts.out, List.flatten_append, show l.take k = l from List.take_of_length_le (by have := Hm.out; omega)]; simp)
                  go_wp2
                  go_roundw
                  case rel => exact ⟨j + 1, fb1, L1, by omega, by go_num, rfl, Hn, by show Ord _; rw [hfs.out]; exact hord.out, by show Last _ _ _; rw [hfs.out]; exact hlast.out, hblk, hbel⟩
                  case measure => simp [intOf]; omega
      · obtain rfl : j = n := by omega
        have Hf := Lib.hid (okPB_true (ps := ps) ⟨h8', by have := hall.out; rwa [List.take_of_length_le (by omega), ← hl] at this, by have := hord.out; rwa [List.take_of_length_le (by omega)] at this⟩)
        go_wp2
        go_ret
        exact ⟨ret_bool Hf.out.symm, hbel⟩

/-- The entries of right pages. -/
noncomputable def pgL (ps : List (List EntD)) : List EntD := if okPB ps = true then ps.flatten else []
theorem pgL_yes {ps : List (List EntD)} (h : okPB ps = true) : pgL ps = ps.flatten := by unfold pgL; rw [if_pos h]
theorem pgL_no {ps : List (List EntD)} (h : okPB ps = false) : pgL ps = [] := by unfold pgL; rw [if_neg (by rw [h]; simp)]
theorem pgL_len (ps : List (List EntD)) : (pgL ps).length ≤ ps.flatten.length := by unfold pgL; split <;> simp

set_option maxHeartbeats 1000000 in
theorem pgList_impl (A : Option Addr) (n c : Nat) (ps : List (List EntD)) (hz : ps.flatten.length ≤ 10000000) (hn : n ≤ 10000000) (w : World) (hr : PagesAt w w.heap.size A n ps) :
    Calls Tryz.prog 26 #[.slice A n c] w fun e w' => ∃ v, e = .returned v ∧ w'.ownsRow w.heap.size 40 4 v (pgL ps).length (ES (pgL ps)) ∧ Below w.heap.size w w' := by
  have Hr := Lib.hid hr
  clear hr
  rcases hok : okPB ps with _ | _
  · have Hl := Lib.hid (pgL_no hok)
    go_enter Tryz.func26, Tryz.ntmps26
    go_wp2_with fail
    refine (pagesOk_impl A n c ps hz hn _ Hr.out).mono ?_
    rintro e w1 ⟨rfl, hb1⟩
    have hsz := hb1.size
    go_wp2
    go_ret
    refine ⟨_, rfl, ?_, belA hb1 _⟩
    rw [Hl.out]
    exact own_more (World.ownsRow_lit w1 #[] 0 (Nat.le_refl _) (by unfold maxLen; omega) rfl) hsz
  · have Hl := Lib.hid (pgL_yes hok)
    go_enter Tryz.func26, Tryz.ntmps26
    go_wp2_with fail
    refine (pagesOk_impl A n c ps hz hn _ Hr.out).mono ?_
    rintro e w1 ⟨rfl, hb1⟩
    have hsz := hb1.size
    go_wp2_with fail
    refine (rowOf_any A n c ps hz hn _ ((Hr.out.below hb1).more hsz)).mono ?_
    rintro e w2 ⟨v, rfl, hown, hb2⟩
    go_wp2
    go_ret
    refine ⟨_, rfl, ?_, belN hb1 hb2⟩
    rw [Hl.out]
    exact own_more hown hsz

set_option maxRecDepth 100000 in
set_option maxHeartbeats 2000000 in
theorem pgList_spec (A : Option Addr) (n c : Nat) (ps : List (List EntD)) (hz : ps.flatten.length ≤ 10000000) (hn : n ≤ 10000000) (w : World) (hr : PagesAt w w.heap.size A n ps) :
    Calls Tryz.prog 8 #[.slice A n c] w fun e w' => ∃ v, e = .returned v ∧ w'.ownsRow w.heap.size 40 4 v (pgL ps).length (ES (pgL ps)) ∧ Below w.heap.size w w' := by
  have hl := hr.len
  have Hr := Lib.hid hr
  clear hr
  rcases hok : okPB ps with _ | _
  · have Hl := Lib.hid (pgL_no hok)
    go_enter Tryz.func8, Tryz.ntmps8
    go_wp2_with fail
    refine (pagesOk_spec A n c ps hz hn _ ((Hr.out.below (belA (bel0 w) _)).more (by simp))).mono ?_
    rintro e w1 ⟨rfl, hb1⟩
    go_wp2
    go_ret
    refine ⟨_, rfl, ?_, belN (belA (bel0 w) _) hb1⟩
    rw [Hl.out]
    exact own_below (World.ownsRow_lit w #[] 0 (Nat.le_refl _) (by unfold maxLen; omega) rfl) hb1 (Nat.le_refl _)
  · have Hl := Lib.hid (pgL_yes hok)
    go_enter Tryz.func8, Tryz.ntmps8
    go_wp2_with fail
    refine (pagesOk_spec A n c ps hz hn _ ((Hr.out.below (belA (bel0 w) _)).more (by simp))).mono ?_
    rintro e w1 ⟨rfl, hb1⟩
    have hown0 := own_below (World.ownsRow_lit (e := 40) (size := 4) w #[] 0 (Nat.le_refl _) (by unfold maxLen; omega) rfl) hb1 (Nat.le_refl _)
    have hbel0 := belN (belA (bel0 w) _) hb1
    have Hown0 := Lib.hid hown0
    clear hown0
    go_wp2
    go_loopw [3, 4] (fun v i wr => ∃ (j : Nat), j ≤ n ∧ i = .int .i64 j ∧ wr.ownsRow w.heap.size 40 4 v (ps.take j).flatten.length (ES (ps.take j).flatten) ∧ Below w.heap.size w wr)
      (fun _ i _ => n - (intOf i).toNat)
    case atStart => exact ⟨0, by omega, rfl, Hown0.out, hbel0⟩
    case round =>
      obtain ⟨j, hj, rfl, hown, hbel⟩ := hrel
      have hsz := hbel.size
      by_cases hlt : j < n
      · obtain ⟨hkx, b, o, A', c', rfl, hadb, z0, hrow⟩ := (Hr.out.below hbel).at_ hlt
        have q0 : (0 : Int) ≤ ↑j := by omega
        have q1 : (↑j : Int) < ↑n := by omega
        have hfl := Lib.hid (flat_take_succ ps j hkx)
        have hle := flat_take_le ps (j + 1)
        rw [hfl.out, List.length_append] at hle
        go_wp2_with (at_builtin; go_must (refine wpList_app _ rfl _ _ _ rfl Tryz.el_ent hown rfl hrow rfl (ES_cells _) (by unfold maxLen; omega) (by omega) hsz ?_); intro v1 w2 own1 hg1 _ hb2)
        go_roundw
        case rel =>
          refine ⟨j + 1, by omega, by go_num, ?_, hbel.trans hb2⟩
          rw [hfl.out, List.length_append, ES_append]; exact own1
        case measure => simp [intOf]; omega
      · obtain rfl : j = n := by omega
        rw [List.take_of_length_le (by omega)] at hown
        go_wp2
        go_ret
        exact ⟨_, rfl, by rw [Hl.out]; exact hown, hbel⟩

def isAt (x y : Int) (e : EntD) : Bool := e.h == x && e.i == y
/-- An entry of pages by its place. -/
noncomputable def fndP (ps : List (List EntD)) (x y : Int) : EntD × Bool := match (pgL ps).find? (isAt x y) with | some e => (e, true) | none => (⟨0, 0, ⟨#[]⟩, 0⟩, false)
theorem fndP_some {ps : List (List EntD)} {x y : Int} {e : EntD} (h : (pgL ps).find? (isAt x y) = some e) : fndP ps x y = (e, true) := by unfold fndP; rw [h]
theorem fndP_none {ps : List (List EntD)} {x y : Int} (h : (pgL ps).find? (isAt x y) = none) : fndP ps x y = (⟨0, 0, ⟨#[]⟩, 0⟩, false) := by unfold fndP; rw [h]
theorem find_hit {p : EntD → Bool} {a r : List EntD} {x : EntD} (h : a.find? p = none) (hx : p x = true) : (a ++ x :: r).find? p = some x := by rw [List.find?_append, h]; simp [hx]
theorem find_miss {p : EntD → Bool} {a : List EntD} {x : EntD} (h : a.find? p = none) (hx : p x = false) : (a ++ [x]).find? p = none := by rw [List.find?_append, h]; simp [hx]
theorem fnd_end {v : Value} {ps : List (List EntD)} {x y : Int} {e : EntD} {b : Bool} (h : fndP ps x y = (e, b)) (hv : v = .tuple #[.agg #[.int .i64 e.h, .int .i64 e.i, .string e.s, .int .i64 e.d], .bool b]) :
    Ending.returned v = .returned (.tuple #[.agg #[.int .i64 (fndP ps x y).1.h, .int .i64 (fndP ps x y).1.i, .string (fndP ps x y).1.s, .int .i64 (fndP ps x y).1.d], .bool (fndP ps x y).2]) := by rw [hv, h]

set_option maxRecDepth 100000 in
set_option maxHeartbeats 4000000 in
theorem pgFind_impl (A : Option Addr) (n c : Nat) (ps : List (List EntD)) (x y : Int) (hz : ps.flatten.length ≤ 10000000) (hn : n ≤ 10000000) (w : World) (hr : PagesAt w w.heap.size A n ps) :
    Calls Tryz.prog 58 #[.slice A n c, .int .i64 x, .int .i64 y] w fun e w' =>
      e = .returned (.tuple #[.agg #[.int .i64 (fndP ps x y).1.h, .int .i64 (fndP ps x y).1.i, .string (fndP ps x y).1.s, .int .i64 (fndP ps x y).1.d], .bool (fndP ps x y).2]) ∧ Below w.heap.size w w' := by
  have Hr := Lib.hid hr
  have hpl := pgL_len ps
  clear hr
  go_enter Tryz.func58, Tryz.ntmps58
  go_wp2_with fail
  refine (pgList_impl A n c ps hz hn _ ((Hr.out.below (belA (bel0 w) _)).more (by simp))).mono ?_
  rintro e w1 ⟨v, rfl, hown, hb1⟩
  obtain ⟨R, c1, rfl, _, _, hread⟩ := own_vals hown
  have hB1 := (Blk.new' w 40 #[.int .i64 0, .int .i64 0, .string ⟨#[]⟩, .int .i64 0] w.heap.size).below hb1 (by simp)
  have bel1 := belN (belA (bel0 w) _) hb1
  have Hread := Lib.hid hread
  have HB1 := Lib.hid hB1
  obtain ⟨L, hL⟩ : ∃ L, pgL ps = L := ⟨_, rfl⟩
  have HL := Lib.hid hL
  rw [hL] at Hread hpl ⊢
  clear hL hown hread hB1
  obtain ⟨N, hN⟩ : ∃ N, L.length = N := ⟨_, rfl⟩
  rw [hN] at Hread hpl ⊢
  have HN := Lib.hid hN
  clear hN
  go_wp2
  go_loopw [13] (fun i wr => ∃ (k : Nat), k ≤ N ∧ i = .int .i64 k ∧ Hid ((L.take k).find? (isAt x y) = none) ∧ Below w1.heap.size w1 wr)
    (fun i _ => N - (intOf i).toNat)
  case atStart => exact ⟨0, by omega, rfl, by simp [Hid], bel0 w1⟩
  case round =>
    obtain ⟨k, hk, rfl, hnone, hbel⟩ := hrel
    have hBr := HB1.out.below hbel HB1.out.lt
    have belr := belN bel1 hbel
    have hlt0 := hBr.lt
    have c0 := hBr.get 0 rfl
    have c1' := hBr.get 1 rfl
    have c2 := hBr.get 2 rfl
    have c3 := hBr.get 3 rfl
    have f0 := hBr.frozen 0
    have f1 := hBr.frozen 1
    have f2 := hBr.frozen 2
    have f3 := hBr.frozen 3
    have ne : w.heap.size ≠ wr.heap.size := by omega
    have ne' : wr.heap.size ≠ w.heap.size := by omega
    by_cases hlt : k < N
    · obtain ⟨hkx, b, o, rfl, hadb, z0, z1, z2, z3⟩ := reads_ent (Hread.out.below hbel) hlt
      have q0 : (0 : Int) ≤ ↑k := by omega
      have q1 : (↑k : Int) < ↑N := by omega
      have hts := Lib.hid (List.take_succ_eq_append_getElem hkx)
      have hdr := Lib.hid (show L = L.take k ++ L[k] :: L.drop (k + 1) by rw [← List.drop_eq_getElem_cons hkx, List.take_append_drop])
      obtain ⟨e, he⟩ : ∃ e, L[k] = e := ⟨_, rfl⟩
      rw [he] at z0 z1 z2 z3 hts hdr
      have He := Lib.hid he
      clear he
      by_cases h1 : e.h = x
      · by_cases h2 : e.i = y
        · have Hf := Lib.hid (fndP_some (ps := ps) (x := x) (y := y) (e := e) (by rw [HL.out, hdr.out]; exact find_hit hnone.out (by simp [isAt, h1, h2])))
          have h1' : (e.h == x) = true := by simp [h1]
          have h2' : (e.i == y) = true := by simp [h2]
          clear h1 h2
          have hF := ((((hBr.put 0 (.int .i64 e.h) #[.int .i64 e.h, .int .i64 0, .string ⟨#[]⟩, .int .i64 0] rfl).put 1 (.int .i64 e.i) #[.int .i64 e.h, .int .i64 e.i, .string ⟨#[]⟩, .int .i64 0] rfl).put 2 (.string e.s) #[.int .i64 e.h, .int .i64 e.i, .string e.s, .int .i64 0] rfl).put 3 (.int .i64 e.d) #[.int .i64 e.h, .int .i64 e.i, .string e.s, .int .i64 e.d] rfl).alloc (.cells #[.int .i64 e.h, .int .i64 e.i, .string e.s, .int .i64 e.d] 40)
          have r0 := Lib.hid (hF.get (x := .int .i64 e.h) 0 rfl)
          have r1 := Lib.hid (hF.get (x := .int .i64 e.i) 1 rfl)
          have r2 := Lib.hid (hF.get (x := .string e.s) 2 rfl)
          have r3 := Lib.hid (hF.get (x := .int .i64 e.d) 3 rfl)
          go_wp2
          refine bodyPost_ret (v := .tuple #[.agg #[.int .i64 e.h, .int .i64 e.i, .string e.s, .int .i64 e.d], .bool true]) (by simp [results, Tryz.results58, go_sem, r0.out, r1.out, r2.out, r3.out]) rfl ⟨fnd_end Hf.out rfl, ?_⟩
          exact belA (belC (belC (belC (belC belr _ _ (Nat.le_refl _) _) _ _ (Nat.le_refl _) _) _ _ (Nat.le_refl _) _) _ _ (Nat.le_refl _) _) _
        · have Hm := Lib.hid (find_miss (p := isAt x y) hnone.out (show isAt x y e = false by simp [isAt, h2]))
          have h1' : (e.h == x) = true := by simp [h1]
          have h2' : (e.i == y) = false := by simp [h2]
          clear h1 h2
          go_wp2
          go_roundw
          case rel => exact ⟨k + 1, by omega, by go_num, by show _ = _; rw [hts.out]; exact Hm.out, belA hbel _⟩
          case measure => simp [intOf]; omega
      · have Hm := Lib.hid (find_miss (p := isAt x y) hnone.out (show isAt x y e = false by simp [isAt, h1]))
        have h1' : (e.h == x) = false := by simp [h1]
        clear h1
        go_wp2
        go_roundw
        case rel => exact ⟨k + 1, by omega, by go_num, by show _ = _; rw [hts.out]; exact Hm.out, belA hbel _⟩
        case measure => simp [intOf]; omega
    · have Hf := Lib.hid (fndP_none (ps := ps) (x := x) (y := y) (by rw [HL.out]; have := hnone.out; rwa [List.take_of_length_le (by have := HN.out; omega)] at this))
      go_wp2
      refine bodyPost_ret (v := .tuple #[.agg #[.int .i64 0, .int .i64 0, .string ⟨#[]⟩, .int .i64 0], .bool false]) (by simp [results, Tryz.results58, go_sem, c0, c1', c2, c3]) rfl ⟨fnd_end Hf.out rfl, ?_⟩
      exact belC (belC (belC (belC belr _ _ (Nat.le_refl _) _) _ _ (Nat.le_refl _) _) _ _ (Nat.le_refl _) _) _ _ (Nat.le_refl _) _

end Go.Proofs.YtbchbmcphbeikaaGreatDoor
