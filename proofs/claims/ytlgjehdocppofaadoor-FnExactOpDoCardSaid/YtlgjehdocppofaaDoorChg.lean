/- Changes of a directory, in both packages. -/
import Derived.Test.YtlgjehdocppofaaDoorInsE
import Derived.Test.YtlgjehdocppofaaDoorDoP
import Derived.Test.YtlgjehdocppofaaDoorHeld
namespace Go.Proofs.YtlgjehdocppofaaDoor
open Go Go.RowKit

theorem own_nilC (w : World) (base size : Nat) (e : TypeId) : w.ownsRow base e size (.slice none 0 0) 0 [] := ⟨by simp, .inl ⟨rfl, rfl⟩⟩
/-- What a change leaves: a row of entries in new memory, and whether it is done. -/
def ChgPost (w : World) (P : List EntD × Bool) (e : Ending) (w' : World) : Prop :=
  ∃ L b v n, P = (L, b) ∧ L.length = n ∧ e = .returned (.tuple #[v, .bool b]) ∧ w'.ownsRow w.heap.size 93 4 v n (ES L)
theorem chg_end {w w' : World} {P : List EntD × Bool} {L : List EntD} {b : Bool} {n : Nat} {v u : Value} (h : P = (L, b)) (hv : v = .tuple #[u, .bool b]) (hn : L.length = n) (ho : w'.ownsRow w.heap.size 93 4 u n (ES L)) : ChgPost w P (.returned v) w' := ⟨L, b, u, n, h, hn, by rw [hv], ho⟩
theorem chg_bad {w w' : World} {P : List EntD × Bool} {v : Value} (h : P = ([], false)) (hv : v = .tuple #[.slice none 0 0, .bool false]) : ChgPost w P (.returned v) w' := chg_end (n := 0) h hv rfl (own_nilC _ _ _ _)

set_option maxHeartbeats 1000000 in
theorem copyEnts_impl (A : Option Addr) (n c : Nat) (ds : List EntD) (hn : n ≤ 100000) (w : World) (hr : Reads w w.heap.size 4 A n (ES ds)) :
    Calls Tryd.prog 63 #[.slice A n c] w fun e w' => ∃ v, e = .returned v ∧ w'.ownsRow w.heap.size 93 4 v n (ES ds) ∧ Below w.heap.size w w' := by
  have Hr := Lib.hid hr
  clear hr
  go_enter Tryd.func63, Tryd.ntmps63
  go_wp2_with (at_builtin; refine wpList_app _ rfl _ _ _ rfl Tryd.el_ent (own_nilC _ w.heap.size 4 _) rfl Hr.out rfl (ES_cells _) (by unfold maxLen; omega) (by omega) (Nat.le_refl _) ?_; intro v1 w1 own1 _ _ hb1; rw [Nat.zero_add, List.nil_append] at own1; have Own1 := Lib.hid own1; clear own1)
  go_ret
  exact ⟨_, rfl, Own1.out, hb1⟩

set_option maxHeartbeats 1000000 in
theorem l5Copy_any (A : Option Addr) (n c : Nat) (ds : List EntD) (hn : n ≤ 100000) (w : World) (hr : Reads w w.heap.size 4 A n (ES ds)) :
    Calls Tryd.prog 57 #[.slice A n c] w fun e w' => ∃ v, e = .returned v ∧ w'.ownsRow w.heap.size 93 4 v n (ES ds) ∧ Below w.heap.size w w' := by
  have Hr := Lib.hid hr
  clear hr
  have hlit := World.ownsRow_lit (e := 93) (size := 4) w #[] 0 (Nat.le_refl _) (by unfold maxLen; omega) rfl
  go_enter Tryd.func57, Tryd.ntmps57
  go_wp2_with (at_builtin; refine wpList_app _ rfl _ _ _ rfl Tryd.el_ent hlit rfl ((Hr.out.below (belA (bel0 w) _)).more (Nat.le_succ _)) rfl (ES_cells _) (by unfold maxLen; omega) (by omega) (by simp) ?_; intro v1 w1 own1 _ _ hb1; rw [Nat.zero_add] at own1; have Own1 := Lib.hid own1; clear own1)
  go_ret
  exact ⟨_, rfl, Own1.out, (belA (bel0 w) _).trans hb1⟩

set_option maxRecDepth 100000 in
set_option maxHeartbeats 4000000 in
theorem drop_impl (A : Option Addr) (n c : Nat) (ds : List EntD) (hz : ∀ e ∈ ds, e.s.size ≤ 2000000) (hn : n ≤ 9223372036854775807) (s : ByteArray) (hs : s.size ≤ 2000000) (w : World) (hT : Tab w) (hr : Reads w w.heap.size 4 A n (ES ds)) :
    Calls Tryd.prog 60 #[.slice A n c, .string s] w fun e w' => ChgPost w (dropP ds s) e w' ∧ Below w.heap.size w w' := by
  have hl : ds.length = n := by have := hr.1; rw [ES_length] at this; omega
  have Hr := Lib.hid hr
  have HL := Lib.hid hl
  have HT := Lib.hid hT
  clear hT hr hl
  rcases hok : dirOkB ds with _ | _
  · have Hf := Lib.hid (dropP_bad (s := s) hok)
    have Hok := Lib.hid hok
    clear hok
    go_enter Tryd.func60, Tryd.ntmps60
    go_wp2_with fail
    refine (dirOk_impl A n c ds hz _ HT.out hn Hr.out).mono ?_
    rintro e w1 ⟨rfl, hb1⟩
    rw [Hok.out]
    go_wp2
    refine bodyPost_ret (v := .tuple #[.slice none 0 0, .bool false]) (by simp [results, Tryd.results60, go_sem]) rfl ⟨chg_bad Hf.out rfl, hb1⟩
  · have h12 : n ≤ 12 := by have := dir12 hok; have := HL.out; omega
    have Hok := Lib.hid hok
    clear hok
    go_enter Tryd.func60, Tryd.ntmps60
    go_wp2_with fail
    refine (dirOk_impl A n c ds hz _ HT.out hn Hr.out).mono ?_
    rintro e w1 ⟨rfl, hb1⟩
    rw [Hok.out]
    go_wp2_with fail
    refine (copyEnts_impl A n c ds (by omega) _ ((Hr.out.below hb1).more hb1.size)).mono ?_
    rintro e w2 ⟨v, rfl, own2, hb2⟩
    have Own2 := Lib.hid own2
    have B2 := belN hb1 hb2
    clear own2
    go_wp2_with fail
    refine (entAt_impl A n c ds hz hn s hs _ (HT.out.bl B2) ((Hr.out.below B2).more B2.size)).mono ?_
    rintro e w3 ⟨r, rfl, ha, hb3⟩
    have Own3 := Lib.hid (own_below Own2.out hb3 (Nat.le_refl _))
    have B3 := belN B2 hb3
    have hix := at_idx Hok.out ha
    clear ha Own2
    rcases hix with ⟨rfl, hf⟩ | ⟨k, hk, rfl, hf⟩
    · have Hf := Lib.hid (dropP_no Hok.out hf)
      clear hf
      go_wp2
      refine bodyPost_ret (v := .tuple #[v, .bool false]) (by simp [results, Tryd.results60, go_sem]) rfl ⟨chg_end Hf.out rfl HL.out (own_more Own3.out hb1.size), B3⟩
    · have Hf := Lib.hid (dropP_yes Hok.out hk hf)
      have hkn : k < n := by have := HL.out; omega
      have q0 : ¬ ((k : Int) < 0) := by omega
      obtain ⟨g, c2, rfl⟩ := own_form1 Own3.out (by omega)
      clear hf
      go_wp2_with fail
      refine (delE_any w1.heap.size n k g c2 ds _ (by omega) hkn HL.out (Nat.le_trans hb2.size hb3.size) Own3.out).mono ?_
      rintro e w4 ⟨v', rfl, own4, hb4⟩
      have Own4 := Lib.hid own4
      clear own4
      go_wp2
      refine bodyPost_ret (v := .tuple #[v', .bool true]) (by simp [results, Tryd.results60, go_sem]) rfl ⟨chg_end Hf.out rfl (by have := HL.out; simp; omega) (own_more Own4.out hb1.size), B3.trans (hb4.mono hb1.size)⟩

set_option maxRecDepth 100000 in
set_option maxHeartbeats 4000000 in
theorem respell_impl (A : Option Addr) (n c : Nat) (ds : List EntD) (hz : ∀ e ∈ ds, e.s.size ≤ 2000000) (hn : n ≤ 9223372036854775807) (s : ByteArray) (hs : s.size ≤ 2000000) (i : Int) (w : World) (hT : Tab w) (hr : Reads w w.heap.size 4 A n (ES ds)) :
    Calls Tryd.prog 61 #[.slice A n c, .string s, .int .i64 i] w fun e w' => ChgPost w (spellP ds s i) e w' ∧ Below w.heap.size w w' := by
  have hl : ds.length = n := by have := hr.1; rw [ES_length] at this; omega
  have Hr := Lib.hid hr
  have HL := Lib.hid hl
  have HT := Lib.hid hT
  clear hT hr hl
  rcases hok : dirOkB ds with _ | _
  · have Hf := Lib.hid (spellP_bad (s := s) (id := i) hok)
    have Hok := Lib.hid hok
    clear hok
    go_enter Tryd.func61, Tryd.ntmps61
    go_wp2_with fail
    refine (dirOk_impl A n c ds hz _ HT.out hn Hr.out).mono ?_
    rintro e w1 ⟨rfl, hb1⟩
    rw [Hok.out]
    go_wp2
    refine bodyPost_ret (v := .tuple #[.slice none 0 0, .bool false]) (by simp [results, Tryd.results61, go_sem]) rfl ⟨chg_bad Hf.out rfl, hb1⟩
  · have h12 : n ≤ 12 := by have := dir12 hok; have := HL.out; omega
    have Hok := Lib.hid hok
    clear hok
    go_enter Tryd.func61, Tryd.ntmps61
    go_wp2_with fail
    refine (dirOk_impl A n c ds hz _ HT.out hn Hr.out).mono ?_
    rintro e w1 ⟨rfl, hb1⟩
    rw [Hok.out]
    go_wp2_with fail
    refine (copyEnts_impl A n c ds (by omega) _ ((Hr.out.below hb1).more hb1.size)).mono ?_
    rintro e w2 ⟨v, rfl, own2, hb2⟩
    have Own2 := Lib.hid own2
    have B2 := belN hb1 hb2
    clear own2
    go_wp2_with fail
    refine (entAt_impl A n c ds hz hn s hs _ (HT.out.bl B2) ((Hr.out.below B2).more B2.size)).mono ?_
    rintro e w3 ⟨r, rfl, ha, hb3⟩
    have Own3 := Lib.hid (own_below Own2.out hb3 (Nat.le_refl _))
    have B3 := belN B2 hb3
    have hix := at_idx Hok.out ha
    clear ha Own2
    rcases hix with ⟨rfl, hf⟩ | ⟨k, hk, rfl, hf⟩
    · have Hf := Lib.hid (spellP_no (id := i) Hok.out (.inl hf))
      clear hf
      go_wp2
      refine bodyPost_ret (v := .tuple #[v, .bool false]) (by simp [results, Tryd.results61, go_sem]) rfl ⟨chg_end Hf.out rfl HL.out (own_more Own3.out hb1.size), B3⟩
    · have hkn : k < n := by have := HL.out; omega
      have q0 : ¬ ((k : Int) < 0) := by omega
      rcases hid : inI i 1 100000 with _ | _
      · have Hf := Lib.hid (spellP_no (s := s) Hok.out (.inr hid))
        have Hid' := Lib.hid hid
        clear hf hid
        go_wp2_with fail
        refine (isId_q i _).mono ?_
        rintro e w4 ⟨rfl, rfl⟩
        rw [Hid'.out]
        go_wp2
        refine bodyPost_ret (v := .tuple #[v, .bool false]) (by simp [results, Tryd.results61, go_sem]) rfl ⟨chg_end Hf.out rfl HL.out (own_more Own3.out hb1.size), B3⟩
      · have Hf := Lib.hid (spellP_yes Hok.out hk hf hid)
        have Hid' := Lib.hid hid
        obtain ⟨g, c2, rfl⟩ := own_form1 Own3.out (by omega)
        have hgw := (own_heap Own3.out).choose_spec.1
        have o1 := own_set (own_set Own3.out (k * 4 + 2) (.string s)) (k * 4 + 3) (.int .i64 i)
        have hx : ((ES ds).set (k * 4 + 2) (.string s)).set (k * 4 + 3) (.int .i64 i) = ES (ds.take k ++ [⟨ds[k].h, ds[k].i, s, i⟩] ++ ds.drop (k + 1)) := ES_spell hk s i
        rw [hx] at o1
        have O1 := Lib.hid o1
        obtain ⟨⟨u0, c0⟩, ⟨u1, c1⟩, ⟨u2, c2'⟩, ⟨u3, c3⟩⟩ := own_cells4 Own3.out k hkn
        have f2 := own_frozen Own3.out (k * 4 + 2)
        have f3 := own_frozen Own3.out (k * 4 + 3)
        have q1 : (0 : Int) ≤ (k : Int) := by omega
        have q2 : (k : Int) < (n : Int) := by omega
        clear hf hid o1 hx
        go_wp2_with fail
        refine (isId_q i _).mono ?_
        rintro e w4 ⟨rfl, rfl⟩
        rw [Hid'.out]
        go_wp2
        refine bodyPost_ret (v := .tuple #[.slice (some ⟨g, 0, none⟩) n c2, .bool true]) (by simp [results, Tryd.results61, go_sem]) rfl ⟨chg_end Hf.out rfl (by have := HL.out; simp; omega) (own_more O1.out hb1.size), (belC (belC B3 g (k * 4 + 2) (Nat.le_trans hb1.size hgw) (.string s)) g (k * 4 + 3) (Nat.le_trans hb1.size hgw) (.int .i64 i))⟩

end Go.Proofs.YtlgjehdocppofaaDoor
