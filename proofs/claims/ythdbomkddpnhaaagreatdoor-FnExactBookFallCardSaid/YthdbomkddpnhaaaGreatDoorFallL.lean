/- A book behind a fall: both contracts as the law wants them. -/
import Derived.Test.YthdbomkddpnhaaaGreatDoorFallS
namespace Go.Proofs.YthdbomkddpnhaaaGreatDoor
open Go Go.RowKit

theorem fallS_len {L : List ByteArray} {ds ds' : List EntD} {q : Int} (h : fallS L ds q = some ds') : ds'.length ≤ ds.length + 1 := by
  unfold fallS at h
  split at h
  · injection h with h; rw [← h]; exact doP_len (b := (doP ds (opP (txtAt L (q + 1))).1.1 (opP (txtAt L (q + 1))).1.2.1 (opP (txtAt L (q + 1))).1.2.2).2) rfl
  · cases h
theorem fallN_len (L : List ByteArray) : ∀ (n : Nat) (ds : List EntD) (q : Int) (rg : List ByteArray), (fallN L n ds q rg).1.length ≤ ds.length + n ∧ (fallN L n ds q rg).2.2.length = rg.length
  | 0, ds, q, rg => ⟨Nat.le_refl _, rfl⟩
  | n + 1, ds, q, rg => by
    cases h : fallS L ds q with
    | none => rw [fallN_stop h]; exact ⟨by show ds.length ≤ _; omega, rfl⟩
    | some ds' =>
      rw [fallN_go h]
      have h1 := fallS_len h
      have h2 := fallN_len L n ds' (q + 1) (rg.set ((q + 1) % 6).toNat (at6 L (q + 1)))
      rw [List.length_set] at h2
      exact ⟨by omega, h2.2⟩
theorem fall_small {B : BookD} {m : Int} (sm : szBk B ≤ 1048576) {B' : BookD} {b : Bool} (h : fallP B m = (B', b)) : BkSmall B' := by
  have h1 := szT_len B.rg
  have h2 := szT_len B.hm
  have h3 := szW_len B.pd
  have h4 := szS_n B.dr
  unfold szBk at sm
  cases hok : bookOkB B with
  | false =>
    rw [fall_no hok] at h
    injection h with h _
    subst h
    exact ⟨Nat.zero_le _, Nat.zero_le _, Nat.zero_le _, Nat.zero_le _⟩
  | true =>
    obtain ⟨⟨rg, hm⟩, hw⟩ : ∃ p, wrmB m B.rg B.hm B.pd B.pd.length = p := ⟨_, rfl⟩
    have hl := wrm_len (m := m) (rg := B.rg) (hm := B.hm) (pd := B.pd) B.pd.length
    rw [hw] at hl
    simp only at hl
    by_cases ha : (hmN hm 2).at_ < 0
    · rw [fall_none hok hw ha] at h
      injection h with h _
      subst h
      exact ⟨by omega, by omega, by omega, by omega⟩
    · have hd := dirOk_sz ((hmN_ok hm 2 (Nat.le_refl _)).2 ha).2.2
      have hn := fallN_len rg 6 (hmN hm 2).dr (hmN hm 2).bs (List.replicate 6 ⟨#[]⟩)
      rw [fall_some hok hw ha rfl] at h
      injection h with h _
      subst h
      refine ⟨?_, ?_, Nat.zero_le _, ?_⟩
      · show List.length _ ≤ _; rw [hn.2]; simp
      · show hm.length ≤ _; omega
      · exact Nat.le_trans hn.1 (by have := hd.2; omega)
theorem fall_impl (v : Value) (B : BookD) (sm : szBk B ≤ 1048576) (mk : Int) (hmk : mk ≤ 9223372036854775807) {B' : BookD} {b : Bool} (h : fallP B mk = (B', b)) (w : World) (hT : Tab w) (hI : IsBook w v B) :
    Calls Tryz.prog 28 #[v, .int .i64 mk] w fun e w' => ∃ v' lo up, e = .returned (.tuple #[v', .bool b]) ∧ w.heap.size ≤ lo ∧ InAt (OwnBk lo v' B') lo up w' ∧ Below w.heap.size w w' := by
  refine (fall_impl0 v B sm mk hmk w hT hI).mono ?_
  rintro e w' ⟨⟨B2, b2, v', hP, rfl, hO⟩, hb⟩
  rw [h] at hP
  injection hP with h1 h2
  subst h1 h2
  exact ⟨v', w.heap.size, _, rfl, Nat.le_refl _, own_bk_in hO, hb⟩
theorem fall_spec (v : Value) (B : BookD) (sm : szBk B ≤ 1048576) (mk : Int) (hmk : mk ≤ 9223372036854775807) {B' : BookD} {b : Bool} (h : fallP B mk = (B', b)) (w : World) (hI : IsBook w v B) :
    Calls Tryz.prog 26 #[v, .int .i64 mk] w fun e w' => ∃ v' lo up, e = .returned (.tuple #[v', .bool b]) ∧ w.heap.size ≤ lo ∧ InAt (OwnBk lo v' B') lo up w' ∧ Below w.heap.size w w' := by
  refine (fall_spec0 v B sm mk hmk w hI).mono ?_
  rintro e w' ⟨⟨B2, b2, v', hP, rfl, hO⟩, hb⟩
  rw [h] at hP
  injection hP with h1 h2
  subst h1 h2
  exact ⟨v', w.heap.size, _, rfl, Nat.le_refl _, own_bk_in hO, hb⟩

end Go.Proofs.YthdbomkddpnhaaaGreatDoor
