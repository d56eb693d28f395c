/- Writing's lengths, and a file kept between its marks. -/
import Derived.Test.YtajgenjfhcapjaaFwLawD
namespace Go.Proofs.Ytajgenjfhcapjaa
open Go Go.RowKit

def Sm3 (s : WSt) : Prop := s.1.length ≤ 10000000 ∧ s.2.1.length ≤ 10000000 ∧ s.2.2.length ≤ 10000000
theorem wrPick_sm {i b : Nat} {s s1 : WSt} (h : Sm3 s) (hp : wrPick i s = some (b, s1)) : Sm3 s1 := by
  have hb2 := findP_bd s.1
  obtain ⟨h1, h2, h3⟩ := h
  unfold wrPick at hp
  split at hp
  · simp only [Option.some.injEq, Prod.mk.injEq] at hp
    obtain ⟨rfl, rfl⟩ := hp
    exact ⟨h1, h2, h3⟩
  · split at hp
    · cases hp
    · simp only [Option.some.injEq, Prod.mk.injEq] at hp
      obtain ⟨rfl, rfl⟩ := hp
      exact ⟨by rw [List.length_set]; exact h1, by rw [List.length_set]; exact h2, putP_len _ _ _ h3 (by omega)⟩
theorem wrStep_sm {off i : Nat} {data : ByteArray} {s s1 : WSt} (h : Sm3 s) (hp : wrStep off data i s = some s1) : Sm3 s1 := by
  unfold wrStep at hp
  cases hq : wrPick i s with
  | none => rw [hq] at hp; cases hp
  | some p =>
    obtain ⟨b, s2⟩ := p
    rw [hq] at hp
    simp only [Option.some.injEq] at hp
    obtain ⟨k1, k2, k3⟩ := wrPick_sm h hq
    rw [← hp]
    exact ⟨k1, by unfold wrB; rw [List.length_set]; exact k2, k3⟩
theorem wrLoop_sm {off : Nat} {data : ByteArray} : ∀ (n i : Nat) (s s1 : WSt), Sm3 s → wrLoop off data n i s = some s1 → Sm3 s1
  | 0, _, s, s1, h, hp => by
    unfold wrLoop at hp
    simp only [Option.some.injEq] at hp
    rw [← hp]; exact h
  | n + 1, i, s, s1, h, hp => by
    unfold wrLoop at hp
    cases hq : wrStep off data i s with
    | none => rw [hq] at hp; cases hp
    | some s2 => rw [hq] at hp; exact wrLoop_sm n (i + 1) s2 s1 (wrStep_sm h hq) hp
theorem writeP_sm {S S' : StoD} {F F' : FilD} {off : Int} {data : ByteArray} {ok : Bool} (hS : StoSm S) (hF : F.xs.length ≤ 10000000) (hP : writeP S F off data = (S', F', ok)) :
    S'.bs.length ≤ 10000000 ∧ S'.ds.length ≤ 10000000 ∧ F'.xs.length ≤ 10000000 := by
  have h0 : ∀ b : Bool, (S, F, b) = (S', F', ok) → S'.bs.length ≤ 10000000 ∧ S'.ds.length ≤ 10000000 ∧ F'.xs.length ≤ 10000000 := fun b e => by
    simp only [Prod.mk.injEq] at e
    obtain ⟨rfl, rfl, _⟩ := e
    exact ⟨hS.1, hS.2.1, hF⟩
  unfold writeP at hP
  split at hP
  · split at hP
    · exact h0 _ hP
    · unfold wrOut at hP
      generalize hL : wrLoop off.toNat data (wrN off.toNat data) (off.toNat / 4) (S.bs, S.ds, F.xs) = L at hP
      cases L with
      | none => unfold wrRes at hP; exact h0 _ hP
      | some s =>
        unfold wrRes at hP
        simp only [Prod.mk.injEq] at hP
        obtain ⟨rfl, rfl, _⟩ := hP
        exact wrLoop_sm _ _ _ _ ⟨hS.1, hS.2.1, hF⟩ hL
  · exact h0 _ hP

theorem FilIn.keep {lo hi : Nat} {v : Value} {F : FilD} {w w' : World} (h : FilIn lo hi v F w) (h' : OwnFil lo v F w') (hs : w.heap.size ≤ w'.heap.size) : FilIn lo hi v F w' := by
  obtain ⟨h0, v1, rfl, _, h3⟩ := h
  obtain ⟨v2, e, h2⟩ := h'
  simp only [Value.agg.injEq, Array.mk.injEq, List.cons.injEq, true_and, and_true] at e
  subst e
  exact ⟨Nat.le_trans h0 hs, v1, rfl, h2, h3⟩
theorem StoIn.keep {lo hi : Nat} {v : Value} {S : StoD} {w w' : World} (h : StoIn lo hi v S w) (h' : OwnSto lo v S w') (hs : w.heap.size ≤ w'.heap.size) : StoIn lo hi v S w' := by
  obtain ⟨h0, v1, v2, rfl, _, _, h3, h4⟩ := h
  obtain ⟨u1, u2, e, h1, h2⟩ := h'
  simp only [Value.agg.injEq, Array.mk.injEq, List.cons.injEq, and_true] at e
  obtain ⟨rfl, rfl⟩ := e
  exact ⟨Nat.le_trans h0 hs, v1, v2, rfl, h1, h2, h3, h4⟩

end Go.Proofs.Ytajgenjfhcapjaa
