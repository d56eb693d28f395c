/- Changes of a directory, in both packages. -/
import Derived.Test.YthdbomkddpnhaaaGreatDoorInsE
import Derived.Test.YthdbomkddpnhaaaGreatDoorCpE
import Derived.Test.YthdbomkddpnhaaaGreatDoorDoP
import Derived.Test.YthdbomkddpnhaaaGreatDoorHeld
namespace Go.Proofs.YthdbomkddpnhaaaGreatDoor
open Go Go.RowKit

/-- What a change leaves: a row of entries in new memory, and whether it is done. -/
def ChgPost (w : World) (P : List EntD × Bool) (e : Ending) (w' : World) : Prop :=
  ∃ L b v n, P = (L, b) ∧ L.length = n ∧ e = .returned (.tuple #[v, .bool b]) ∧ w'.ownsRow w.heap.size 72 4 v n (ES L)
theorem chg_end {w w' : World} {P : List EntD × Bool} {L : List EntD} {b : Bool} {n : Nat} {v u : Value} (h : P = (L, b)) (hv : v = .tuple #[u, .bool b]) (hn : L.length = n) (ho : w'.ownsRow w.heap.size 72 4 u n (ES L)) : ChgPost w P (.returned v) w' := ⟨L, b, u, n, h, hn, by rw [hv], ho⟩
theorem chg_bad {w w' : World} {P : List EntD × Bool} {v : Value} (h : P = ([], false)) (hv : v = .tuple #[.slice none 0 0, .bool false]) : ChgPost w P (.returned v) w' := chg_end (n := 0) h hv rfl (own_nilC _ _ _ _)

set_option maxRecDepth 100000 in
set_option maxHeartbeats 4000000 in
theorem drop_impl (A : Option Addr) (n c : Nat) (ds : List EntD) (hz : ∀ e ∈ ds, e.s.size ≤ 2000000) (hn : n ≤ 9223372036854775807) (s : ByteArray) (hs : s.size ≤ 2000000) (w : World) (hT : Tab w) (hr : Reads w w.heap.size 4 A n (ES ds)) :
    Calls Tryz.prog 168 #[.slice A n c, .string s] w fun e w' => ChgPost w (dropP ds s) e w' ∧ Below w.heap.size w w' := by
  have hl : ds.length = n := by have := hr.1; rw [ES_length] at this; omega
  have Hr := Lib.hid hr
  have HL := Lib.hid hl
  have HT := Lib.hid hT
  clear hT hr hl
  rcases hok : dirOkB ds with _ | _
  · have Hf := Lib.hid (dropP_bad (s := s) hok)
    have Hok := Lib.hid hok
    clear hok
    go_enter Tryz.func168, Tryz.ntmps168
    go_wp2_with fail
    refine (dirOk_impl A n c ds hz _ HT.out hn Hr.out).mono ?_
    rintro e w1 ⟨rfl, hb1⟩
    rw [Hok.out]
    go_wp2
    refine bodyPost_ret (v := .tuple #[.slice none 0 0, .bool false]) (by simp [results, Tryz.results168, go_sem]) rfl ⟨chg_bad Hf.out rfl, hb1⟩
  · have h12 : n ≤ 12 := by have := dir12 hok; have := HL.out; omega
    have Hok := Lib.hid hok
    clear hok
    go_enter Tryz.func168, Tryz.ntmps168
    go_wp2_with fail
    refine (dirOk_impl A n c ds hz _ HT.out hn Hr.out).mono ?_
    rintro e w1 ⟨rfl, hb1⟩
    rw [Hok.out]
    go_wp2_with fail
    refine (copyEnts_impl A n c ds (by omega) _ ((Hr.out.below hb1).more hb1.size)).mono ?_
    rintro e w2 ⟨v, rfl, own2, hb2⟩
    have Own2 := Lib.hid own2
    have B2 := belN hb1 hb2
    clear own2
    go_wp2_with fail
    refine (entAt_impl A n c ds hz hn s hs _ (HT.out.bl B2) ((Hr.out.below B2).more B2.size)).mono ?_
    rintro e w3 ⟨r, rfl, ha, hb3⟩
    have Own3 := Lib.hid (own_below Own2.out hb3 (Nat.le_refl _))
    have B3 := belN B2 hb3
    have hix := at_idx Hok.out ha
    clear ha Own2
    rcases hix with ⟨rfl, hf⟩ | ⟨k, hk, rfl, hf⟩
    · have Hf := Lib.hid (dropP_no Hok.out hf)
      clear hf
      go_wp2
      refine bodyPost_ret (v := .tuple #[v, .bool false]) (by simp [results, Tryz.results168, go_sem]) rfl ⟨chg_end Hf.out rfl HL.out (own_more Own3.out hb1.size), B3⟩
    · have Hf := Lib.hid (dropP_yes Hok.out hk hf)
      have hkn : k < n := by have := HL.out; omega
      have q0 : ¬ ((k : Int) < 0) := by omega
      obtain ⟨g, c2, rfl⟩ := own_form1 Own3.out (by omega)
      clear hf
      go_wp2_with fail
      refine (delE_any w1.heap.size n k g c2 ds _ (by omega) hkn HL.out (Nat.le_trans hb2.size hb3.size) Own3.out).mono ?_
      rintro e w4 ⟨v', rfl, own4, hb4⟩
      have Own4 := Lib.hid own4
      clear own4
      go_wp2
      refine bodyPost_ret (v := .tuple #[v', .bool true]) (by simp [results, Tryz.results168, go_sem]) rfl ⟨chg_end Hf.out rfl (by have := HL.out; simp; omega) (own_more Own4.out hb1.size), B3.trans (hb4.mono hb1.size)⟩

set_option maxRecDepth 100000 in
set_option maxHeartbeats 4000000 in
theorem respell_impl (A : Option Addr) (n c : Nat) (ds : List EntD) (hz : ∀ e ∈ ds, e.s.size ≤ 2000000) (hn : n ≤ 9223372036854775807) (s : ByteArray) (hs : s.size ≤ 2000000) (i : Int) (w : World) (hT : Tab w) (hr : Reads w w.heap.size 4 A n (ES ds)) :
    Calls Tryz.prog 169 #[.slice A n c, .string s, .int .i64 i] w fun e w' => ChgPost w (spellP ds s i) e w' ∧ Below w.heap.size w w' := by
  have hl : ds.length = n := by have := hr.1; rw [ES_length] at this; omega
  have Hr := Lib.hid hr
  have HL := Lib.hid hl
  have HT := Lib.hid hT
  clear hT hr hl
  rcases hok : dirOkB ds with _ | _
  · have Hf := Lib.hid (spellP_bad (s := s) (id := i) hok)
    have Hok := Lib.hid hok
    clear hok
    go_enter Tryz.func169, Tryz.ntmps169
    go_wp2_with fail
    refine (dirOk_impl A n c ds hz _ HT.out hn Hr.out).mono ?_
    rintro e w1 ⟨rfl, hb1⟩
    rw [Hok.out]
    go_wp2
    refine bodyPost_ret (v := .tuple #[.slice none 0 0, .bool false]) (by simp [results, Tryz.results169, go_sem]) rfl ⟨chg_bad Hf.out rfl, hb1⟩
  · have h12 : n ≤ 12 := by have := dir12 hok; have := HL.out; omega
    have Hok := Lib.hid hok
    clear hok
    go_enter Tryz.func169, Tryz.ntmps169
    go_wp2_with fail
    refine (dirOk_impl A n c ds hz _ HT.out hn Hr.out).mono ?_
    rintro e w1 ⟨rfl, hb1⟩
    rw [Hok.out]
    go_wp2_with fail
    refine (copyEnts_impl A n c ds (by omega) _ ((Hr.out.below hb1).more hb1.size)).mono ?_
    rintro e w2 ⟨v, rfl, own2, hb2⟩
    have Own2 := Lib.hid own2
    have B2 := belN hb1 hb2
    clear own2
    go_wp2_with fail
    refine (entAt_impl A n c ds hz hn s hs _ (HT.out.bl B2) ((Hr.out.below B2).more B2.size)).mono ?_
    rintro e w3 ⟨r, rfl, ha, hb3⟩
    have Own3 := Lib.hid (own_below Own2.out hb3 (Nat.le_refl _))
    have B3 := belN B2 hb3
    have hix := at_idx Hok.out ha
    clear ha Own2
    rcases hix with ⟨rfl, hf⟩ | ⟨k, hk, rfl, hf⟩
    · have Hf := Lib.hid (spellP_no (id := i) Hok.out (.inl hf))
      clear hf
      go_wp2
      refine bodyPost_ret (v := .tuple #[v, .bool false]) (by simp [results, Tryz.results169, go_sem]) rfl ⟨chg_end Hf.out rfl HL.out (own_more Own3.out hb1.size), B3⟩
    · have hkn : k < n := by have := HL.out; omega
      have q0 : ¬ ((k : Int) < 0) := by omega
      rcases hid : inI i 1 100000 with _ | _
      · have Hf := Lib.hid (spellP_no (s := s) Hok.out (.inr hid))
        have Hid' := Lib.hid hid
        clear hf hid
        go_wp2_with fail
        refine (isId_q i _).mono ?_
        rintro e w4 ⟨rfl, rfl⟩
        rw [Hid'.out]
        go_wp2
        refine bodyPost_ret (v := .tuple #[v, .bool false]) (by simp [results, Tryz.results169, go_sem]) rfl ⟨chg_end Hf.out rfl HL.out (own_more Own3.out hb1.size), B3⟩
      · have Hf := Lib.hid (spellP_yes Hok.out hk hf hid)
        have Hid' := Lib.hid hid
        obtain ⟨g, c2, rfl⟩ := own_form1 Own3.out (by omega)
        have hgw := (own_heap Own3.out).choose_spec.1
        have o1 := own_set (own_set Own3.out (k * 4 + 2) (.string s)) (k * 4 + 3) (.int .i64 i)
        have hx : ((ES ds).set (k * 4 + 2) (.string s)).set (k * 4 + 3) (.int .i64 i) = ES (ds.take k ++ [⟨ds[k].h, ds[k].i, s, i⟩] ++ ds.drop (k + 1)) := ES_spell hk s i
        rw [hx] at o1
        have O1 := Lib.hid o1
        obtain ⟨⟨u0, c0⟩, ⟨u1, c1⟩, ⟨u2, c2'⟩, ⟨u3, c3⟩⟩ := own_cells4 Own3.out k hkn
        have f2 := own_frozen Own3.out (k * 4 + 2)
        have f3 := own_frozen Own3.out (k * 4 + 3)
        have q1 : (0 : Int) ≤ (k : Int) := by omega
        have q2 : (k : Int) < (n : Int) := by omega
        clear hf hid o1 hx
        go_wp2_with fail
        refine (isId_q i _).mono ?_
        rintro e w4 ⟨rfl, rfl⟩
        rw [Hid'.out]
        go_wp2
        refine bodyPost_ret (v := .tuple #[.slice (some ⟨g, 0, none⟩) n c2, .bool true]) (by simp [results, Tryz.results169, go_sem]) rfl ⟨chg_end Hf.out rfl (by have := HL.out; simp; omega) (own_more O1.out hb1.size), (belC (belC B3 g (k * 4 + 2) (Nat.le_trans hb1.size hgw) (.string s)) g (k * 4 + 3) (Nat.le_trans hb1.size hgw) (.int .i64 i))⟩

end Go.Proofs.YthdbomkddpnhaaaGreatDoor
