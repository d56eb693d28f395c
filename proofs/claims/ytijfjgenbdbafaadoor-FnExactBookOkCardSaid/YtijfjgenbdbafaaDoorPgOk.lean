/- Whether pages are right, in the program. -/
import Derived.Test.YtijfjgenbdbafaaDoorPages
namespace Go.Proofs.YtijfjgenbdbafaaDoor
open Go Go.RowKit

theorem Tryd.el_ent : ElemOk Tryd.prog 25 37 (.agg #[.int .i64 0, .int .i64 0, .string ⟨#[]⟩, .int .i64 0]) 4 40 := ⟨Tryd.underlying25, by kernel_rfl, rfl, by omega⟩

/-- An entry stands behind a place; ahead of it. -/
def behB (e : EntD) (h i : Int) : Bool := decide (h < e.h) || (decide (e.h = h) && decide (i < e.i))
def lessB (e : EntD) (h i : Int) : Bool := decide (e.h < h) || (decide (e.h = h) && decide (e.i < i))
theorem less_beh (a b : EntD) : lessB a b.h b.i = behB b a.h a.i := by
  unfold lessB behB
  rw [show (decide (a.h = b.h)) = decide (b.h = a.h) from by simp [eq_comm]]

set_option maxHeartbeats 1000000 in
theorem isBehind_any (e : EntD) (x y : Int) (w : World) :
    Calls Tryd.prog 124 #[e.val, .int .i64 x, .int .i64 y] w fun r w' => r = .returned (.bool (behB e x y)) ∧ Below w.heap.size w w' := by
  obtain ⟨h, i, s, d⟩ := e
  simp only [EntD.val]
  by_cases h1 : x < h
  · have Hf := Lib.hid (show behB ⟨h, i, s, d⟩ x y = true by simp [behB, h1])
    go_enter Tryd.func124, Tryd.ntmps124
    go_wp2
    go_ret
    exact ⟨ret_bool Hf.out.symm, belA (bel0 w) _⟩
  · by_cases h2 : h = x
    · have h2' : (h == x) = true := by simp [h2]
      by_cases h3 : y < i
      · have Hf := Lib.hid (show behB ⟨h, i, s, d⟩ x y = true by simp [behB, h2, h3])
        clear h2
        go_enter Tryd.func124, Tryd.ntmps124
        go_wp2
        go_ret
        exact ⟨ret_bool Hf.out.symm, belA (bel0 w) _⟩
      · have Hf := Lib.hid (show behB ⟨h, i, s, d⟩ x y = false by simp [behB]; omega)
        clear h2
        go_enter Tryd.func124, Tryd.ntmps124
        go_wp2
        go_ret
        exact ⟨ret_bool Hf.out.symm, belA (bel0 w) _⟩
    · have h2' : (h == x) = false := by simp [h2]
      have Hf := Lib.hid (show behB ⟨h, i, s, d⟩ x y = false by simp [behB]; omega)
      clear h2
      go_enter Tryd.func124, Tryd.ntmps124
      go_wp2
      go_ret
      exact ⟨ret_bool Hf.out.symm, belA (bel0 w) _⟩

set_option maxHeartbeats 1000000 in
theorem l5Less_any (e : EntD) (x y : Int) (w : World) :
    Calls Tryd.prog 118 #[e.val, .int .i64 x, .int .i64 y] w fun r w' => r = .returned (.bool (lessB e x y)) ∧ Below w.heap.size w w' := by
  obtain ⟨h, i, s, d⟩ := e
  simp only [EntD.val]
  by_cases h1 : h < x
  · have Hf := Lib.hid (show lessB ⟨h, i, s, d⟩ x y = true by simp [lessB, h1])
    go_enter Tryd.func118, Tryd.ntmps118
    go_wp2
    go_ret
    exact ⟨ret_bool Hf.out.symm, belA (bel0 w) _⟩
  · by_cases h2 : h = x
    · have h2' : (h == x) = true := by simp [h2]
      by_cases h3 : i < y
      · have Hf := Lib.hid (show lessB ⟨h, i, s, d⟩ x y = true by simp [lessB, h2, h3])
        clear h2
        go_enter Tryd.func118, Tryd.ntmps118
        go_wp2
        go_ret
        exact ⟨ret_bool Hf.out.symm, belA (bel0 w) _⟩
      · have Hf := Lib.hid (show lessB ⟨h, i, s, d⟩ x y = false by simp [lessB]; omega)
        clear h2
        go_enter Tryd.func118, Tryd.ntmps118
        go_wp2
        go_ret
        exact ⟨ret_bool Hf.out.symm, belA (bel0 w) _⟩
    · have h2' : (h == x) = false := by simp [h2]
      have Hf := Lib.hid (show lessB ⟨h, i, s, d⟩ x y = false by simp [lessB]; omega)
      clear h2
      go_enter Tryd.func118, Tryd.ntmps118
      go_wp2
      go_ret
      exact ⟨ret_bool Hf.out.symm, belA (bel0 w) _⟩

/-- A page of so many is right. -/
def pgB (m : Nat) (l : List EntD) : Bool := inI l.length 1 4 && !(decide (1 < m) && decide (l.length < 2))
/-- Entries stand in order. -/
def Ord (l : List EntD) : Prop := ∀ (i : Nat) (h : i + 1 < l.length), behB l[i + 1] l[i].h l[i].i = true
def OkP (ps : List (List EntD)) : Prop := ps.length ≤ 8 ∧ (∀ l ∈ ps, pgB ps.length l = true) ∧ Ord ps.flatten
noncomputable def okPB (ps : List (List EntD)) : Bool := @decide (OkP ps) (Classical.propDecidable _)
theorem okPB_iff {ps : List (List EntD)} : okPB ps = true ↔ OkP ps := @decide_eq_true_iff _ (Classical.propDecidable _)
theorem okPB_true {ps : List (List EntD)} (h : OkP ps) : okPB ps = true := okPB_iff.2 h
theorem okPB_false {ps : List (List EntD)} (h : ¬ OkP ps) : okPB ps = false := by
  cases hb : okPB ps with
  | false => rfl
  | true => exact absurd (okPB_iff.1 hb) h
theorem flat_take_succ (ps : List (List EntD)) (j : Nat) (h : j < ps.length) : (ps.take (j + 1)).flatten = (ps.take j).flatten ++ ps[j] := by
  rw [List.take_succ_eq_append_getElem h, List.flatten_append]; simp
theorem flat_take_le (ps : List (List EntD)) (j : Nat) : (ps.take j).flatten.length ≤ ps.flatten.length := by
  conv => rhs; rw [← List.take_append_drop j ps, List.flatten_append, List.length_append]
  omega

set_option maxRecDepth 100000 in
set_option maxHeartbeats 2000000 in
theorem rowOf_any (A : Option Addr) (n c : Nat) (ps : List (List EntD)) (hz : ps.flatten.length ≤ 10000000) (hn : n ≤ 10000000) (w : World) (hr : PagesAt w w.heap.size A n ps) :
    Calls Tryd.prog 126 #[.slice A n c] w fun e w' => ∃ v, e = .returned v ∧ w'.ownsRow w.heap.size 37 4 v ps.flatten.length (ES ps.flatten) ∧ Below w.heap.size w w' := by
  have hl := hr.len
  have Hr := Lib.hid hr
  clear hr
  go_enter Tryd.func126, Tryd.ntmps126
  go_wp2
  go_loopw [3, 9] (fun v i wr => ∃ (j : Nat), j ≤ n ∧ i = .int .i64 j ∧ wr.ownsRow w.heap.size 37 4 v (ps.take j).flatten.length (ES (ps.take j).flatten) ∧ Below w.heap.size w wr)
    (fun _ i _ => n - (intOf i).toNat)
  case atStart => exact ⟨0, by omega, rfl, World.ownsRow_lit w #[] 0 (Nat.le_refl _) (by unfold maxLen; omega) rfl, belA (bel0 w) _⟩
  case round =>
    obtain ⟨j, hj, rfl, hown, hbel⟩ := hrel
    have hsz := hbel.size
    by_cases hlt : j < n
    · obtain ⟨hkx, b, o, A', c', rfl, hadb, z0, hrow⟩ := (Hr.out.below hbel).at_ hlt
      have q0 : (0 : Int) ≤ ↑j := by omega
      have q1 : (↑j : Int) < ↑n := by omega
      have hfl := Lib.hid (flat_take_succ ps j hkx)
      have hle := flat_take_le ps (j + 1)
      rw [hfl.out, List.length_append] at hle
      go_wp2_with (at_builtin; go_must (refine wpList_app _ rfl _ _ _ rfl Tryd.el_ent hown rfl hrow rfl (ES_cells _) (by unfold maxLen; omega) (by omega) hsz ?_); intro v1 w1 own1 hg1 _ hb1)
      go_roundw
      case rel =>
        refine ⟨j + 1, by omega, by go_num, ?_, hbel.trans hb1⟩
        rw [hfl.out, List.length_append, ES_append]; exact own1
      case measure => simp [intOf]; omega
    · obtain rfl : j = n := by omega
      rw [List.take_of_length_le (by omega)] at hown
      go_wp2
      go_ret
      exact ⟨_, rfl, hown, hbel⟩

set_option maxRecDepth 100000 in
set_option maxHeartbeats 4000000 in
theorem pagesOk_impl (A : Option Addr) (n c : Nat) (ps : List (List EntD)) (hz : ps.flatten.length ≤ 10000000) (hn : n ≤ 10000000) (w : World) (hr : PagesAt w w.heap.size A n ps) :
    Calls Tryd.prog 73 #[.slice A n c] w fun e w' => e = .returned (.bool (okPB ps)) ∧ Below w.heap.size w w' := by
  have hl := hr.len
  have Hr := Lib.hid hr
  clear hr
  go_enter Tryd.func73, Tryd.ntmps73
  go_wp2
  go_loopw [9] (fun i wr => ∃ (j : Nat), j ≤ n ∧ i = .int .i64 j ∧ Hid (∀ l ∈ ps.take j, pgB n l = true) ∧ w = wr)
    (fun i _ => n - (intOf i).toNat)
  case atStart => exact ⟨0, by omega, rfl, by simp [Hid], rfl⟩
  case round =>
    obtain ⟨j, hj, rfl, hall, rfl⟩ := hrel
    by_cases hlt : j < n
    · obtain ⟨hkx, b, o, A', c', rfl, hadb, z0, hrow⟩ := Hr.out.at_ hlt
      have q0 : (0 : Int) ≤ ↑j := by omega
      have q1 : (↑j : Int) < ↑n := by omega
      have Hmem := Lib.hid (List.getElem_mem hkx)
      have hts := Lib.hid (List.take_succ_eq_append_getElem hkx)
      clear hrow
      obtain ⟨m, hm⟩ : ∃ m, ps[j].length = m := ⟨_, rfl⟩
      rw [hm] at z0
      have Hm := Lib.hid hm
      clear hm
      have fin : pgB n ps[j] = false → okPB ps = false := fun hf => okPB_false fun ho => by
        have := ho.2.1 _ Hmem.out
        rw [hl, hf] at this; cases this
      have Fin := Lib.hid fin
      clear fin
      have nxt : pgB n ps[j] = true → ∀ l ∈ ps.take (j + 1), pgB n l = true := fun hf l hx => by
        rw [hts.out, List.mem_append] at hx
        rcases hx with hx | hx
        · exact hall.out l hx
        · simp at hx; subst hx; exact hf
      have Nxt := Lib.hid nxt
      clear nxt
      rcases hin : inI (m : Int) 1 4 with _ | _
      · have Hf := Lib.hid (Fin.out (by unfold pgB; rw [Hm.out, hin]; rfl))
        go_wp2_with fail
        refine (within_any _ _ _ _).mono ?_
        rintro e w' ⟨rfl, rfl⟩
        go_wp2
        go_ret
        exact ⟨ret_bool Hf.out.symm, bel0 w⟩
      · by_cases h1 : 1 < n
        · by_cases h2 : m < 2
          · have Hf := Lib.hid (Fin.out (by unfold pgB; rw [Hm.out]; simp [h1, h2]))
            go_wp2_with fail
            refine (within_any _ _ _ _).mono ?_
            rintro e w' ⟨rfl, rfl⟩
            go_wp2
            go_ret
            exact ⟨ret_bool Hf.out.symm, bel0 w⟩
          · have Hn := Lib.hid (Nxt.out (by unfold pgB; rw [Hm.out]; simp [hin, h2]))
            go_wp2_with fail
            refine (within_any _ _ _ _).mono ?_
            rintro e w' ⟨rfl, rfl⟩
            go_wp2
            go_roundw
            case rel => exact ⟨j + 1, by omega, by go_num, Hn, by trivial⟩
            case measure => simp [intOf]; omega
        · have Hn := Lib.hid (Nxt.out (by unfold pgB; rw [Hm.out]; simp [hin, h1]))
          go_wp2_with fail
          refine (within_any _ _ _ _).mono ?_
          rintro e w' ⟨rfl, rfl⟩
          go_wp2
          go_roundw
          case rel => exact ⟨j + 1, by omega, by go_num, Hn, by trivial⟩
          case measure => simp [intOf]; omega
    · obtain rfl : j = n := by omega
      have Hall := Lib.hid (show ∀ l ∈ ps, pgB ps.length l = true by have := hall.out; rwa [List.take_of_length_le (by omega), ← hl] at this)
      clear hall
      go_wp2_with fail
      refine (rowOf_any A j c ps hz hn _ Hr.out).mono ?_
      rintro e w1 ⟨v, rfl, hown, hb1⟩
      obtain ⟨R, c1, rfl, _, _, hread⟩ := own_vals hown
      have Hread := Lib.hid hread
      obtain ⟨L, hL⟩ : ∃ L, ps.flatten = L := ⟨_, rfl⟩
      have HL := Lib.hid hL
      rw [hL] at hz Hread ⊢
      clear hL hown hread
      obtain ⟨N, hN⟩ : ∃ N, L.length = N := ⟨_, rfl⟩
      rw [hN] at hz Hread ⊢
      have HN := Lib.hid hN
      clear hN
      go_wp2
      go_loopw [6] (fun i wr => ∃ (k : Nat) (I : Int), Hid (I = k + 1) ∧ (k + 1 ≤ N ∨ k = 0) ∧ i = .int .i64 I ∧ Hid (∀ (i : Nat) (h : i + 1 < L.length), i < k → behB L[i + 1] L[i].h L[i].i = true) ∧ Below w1.heap.size w1 wr)
        (fun i _ => N - (intOf i).toNat)
      case atStart => exact ⟨0, 1, rfl, .inr rfl, rfl, fun i h hk => absurd hk (by omega), bel0 w1⟩
      case round =>
        obtain ⟨k, I, hI, hk, rfl, hord, hbel⟩ := hrel
        have hI' := hI.out
        by_cases hlt : k + 1 < N
        · obtain ⟨hkx, b, o, rfl, hadb, z0, z1, z2, z3⟩ := reads_ent (Hread.out.below hbel) hlt
          obtain ⟨hky, b', o', he, _, y0, y1, y2, y3⟩ := reads_ent (Hread.out.below hbel) (k := k) (by omega)
          injection he with he
          injection he with e1 e2
          subst e1
          subst e2
          have q1 : I < ↑N := by omega
          have q2 : (0 : Int) ≤ I := by omega
          have q3 : (k : Int) < ↑N := by omega
          have q4 : (0 : Int) ≤ (k : Int) := by omega
          have e1 : IntKind.i64.wrap (I - 1) = (k : Int) := by rw [IntKind.wrap_i64]; omega
          have e2 : I.toNat = k + 1 := by omega
          clear hI'
          have Hlx := Lib.hid (HN.out)
          rcases hbh : behB L[k + 1] L[k].h L[k].i with _ | _
          · have Hf := Lib.hid (okPB_false (ps := ps) fun ho => by
              have h3 := ho.2.2
              rw [HL.out] at h3
              have h4 := h3 k (by omega)
              rw [hbh] at h4; cases h4)
            go_wp2_with fail
            go_region_held3 (fun w' => w'.cell? ⟨b, o + (k + 1) * 4, none⟩ = some (.int .i64 L[k + 1].h) ∧ w'.cell? ⟨b, o + (k + 1) * 4 + 1, none⟩ = some (.int .i64 L[k + 1].i) ∧ w'.cell? ⟨b, o + (k + 1) * 4 + 2, none⟩ = some (.string L[k + 1].s) ∧ w'.cell? ⟨b, o + (k + 1) * 4 + 3, none⟩ = some (.int .i64 L[k + 1].d) ∧ w'.cell? ⟨b, o + k * 4, none⟩ = some (.int .i64 L[k].h) ∧ w'.cell? ⟨b, o + k * 4 + 1, none⟩ = some (.int .i64 L[k].i))
              (first | go_keep | (refine ⟨keep1 hb2 ?_, keep1 hb2 ?_, keep1 hb2 ?_, keep1 hb2 ?_, keep1 hb2 ?_, keep1 hb2 ?_⟩ <;> go_keep))
              (first
                | (go_at_call 124; refine (isBehind_any L[k + 1] _ _ _).mono ?_; rintro e w2 ⟨rfl, hb2⟩))
            go_wp2
            go_ret
            exact ⟨ret_bool Hf.out.symm, belN hb1 (belN hbel.drew hb2)⟩
          · go_wp2_with fail
            go_region_held3 (fun w' => w'.cell? ⟨b, o + (k + 1) * 4, none⟩ = some (.int .i64 L[k + 1].h) ∧ w'.cell? ⟨b, o + (k + 1) * 4 + 1, none⟩ = some (.int .i64 L[k + 1].i) ∧ w'.cell? ⟨b, o + (k + 1) * 4 + 2, none⟩ = some (.string L[k + 1].s) ∧ w'.cell? ⟨b, o + (k + 1) * 4 + 3, none⟩ = some (.int .i64 L[k + 1].d) ∧ w'.cell? ⟨b, o + k * 4, none⟩ = some (.int .i64 L[k].h) ∧ w'.cell? ⟨b, o + k * 4 + 1, none⟩ = some (.int .i64 L[k].i))
              (first | go_keep | (refine ⟨keep1 hb2 ?_, keep1 hb2 ?_, keep1 hb2 ?_, keep1 hb2 ?_, keep1 hb2 ?_, keep1 hb2 ?_⟩ <;> go_keep))
              (first
                | (go_at_call 124; refine (isBehind_any L[k + 1] _ _ _).mono ?_; rintro e w2 ⟨rfl, hb2⟩))
            go_wp2
            go_roundw
            case rel =>
              refine ⟨k + 1, I + 1, by have := hI.out; show _ = _; omega, by omega, by go_num, fun i h hi => ?_, belN hbel.drew hb2⟩
              rcases Nat.lt_or_ge i k with h1 | h1
              · exact hord.out i h h1
              · obtain rfl : i = k := by omega
                exact hbh
            case measure => have := hI.out; simp [intOf]; omega
        · have q1 : ¬ I < ↑N := by omega
          have hOrd : Ord L := fun i h => hord.out i h (by have := HN.out; omega)
          have hOk : 8 ≥ ps.length → OkP ps := fun h8 => ⟨h8, Hall.out, by rw [HL.out]; exact hOrd⟩
          have HOk := Lib.hid hOk
          clear hOk hOrd hord
          by_cases h8 : j ≤ 8
          · have Hf := Lib.hid (okPB_true (HOk.out (by omega)))
            go_wp2
            go_ret
            exact ⟨ret_bool (by rw [Hf.out]; exact decide_eq_true (by omega)), belN hb1 hbel⟩
          · have Hf := Lib.hid (okPB_false (ps := ps) fun ho => by have := ho.1; omega)
            go_wp2
            go_ret
            exact ⟨ret_bool (by rw [Hf.out]; exact decide_eq_false (by omega)), belN hb1 hbel⟩

end Go.Proofs.YtijfjgenbdbafaaDoor
