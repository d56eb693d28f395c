/- Changes of a row of entries: the walks of both sides that both of Add and Drop share, and Drop. -/
import Derived.Test.YtghgafbfpejinaaGreatDoorRInsE
import Derived.Test.YtghgafbfpejinaaGreatDoorRDp
import Derived.Test.YtghgafbfpejinaaGreatDoorRDoP
namespace Go.Proofs.YtghgafbfpejinaaGreatDoor
open Go Go.RowKit

/-- What a change leaves: a row of entries in new memory, and whether it is done. -/
def ChgPost (w : World) (P : List EntD × Bool) (e : Ending) (w' : World) : Prop :=
 ∃ L b v n, P = (L, b) ∧ L.length = n ∧ e = .returned (.tuple #[v, .bool b]) ∧ w'.ownsRow w.heap.size 66 4 v n (ES L)
theorem chg_end {w w' : World} {P : List EntD × Bool} {L : List EntD} {b : Bool} {n : Nat} {v u : Value} (h : P = (L, b)) (hv : v = .tuple #[u, .bool b]) (hn : L.length = n) (ho : w'.ownsRow w.heap.size 66 4 u n (ES L)) : ChgPost w P (.returned v) w' := ⟨L, b, u, n, h, hn, by rw [hv], ho⟩
theorem chg_bad {w w' : World} {P : List EntD × Bool} {v : Value} (h : P = ([], false)) (hv : v = .tuple #[.slice none 0 0, .bool false]) : ChgPost w P (.returned v) w' := chg_end (n := 0) h hv rfl (own_nilC _ _ _ _)

set_option maxRecDepth 100000 in
set_option maxHeartbeats 4000000 in
theorem drop_impl (A : Option Addr) (n c : Nat) (ds : List EntD) (hz : ∀ e ∈ ds, e.s.size ≤ 2000000) (hn : n ≤ 9223372036854775807) (s : ByteArray) (hs : s.size ≤ 2000000) (w : World) (hT : Tab w) (hr : Reads w w.heap.size 4 A n (ES ds)) :
  Calls Tryz.prog 75 #[.slice A n c, .string s] w fun e w' => ChgPost w (dropP ds s) e w' ∧ Below w.heap.size w w' := by
 have hl : ds.length = n := by have := hr.1; rw [ES_length] at this; omega
 have Hr := Lib.hid hr
 have HL := Lib.hid hl
 have HT := Lib.hid hT
 clear hT hr hl
 rcases hok : dirOkB ds with _ | _
 ·have Hf := Lib.hid (dropP_bad (s := s) hok)
  have Hok := Lib.hid hok
  clear hok
  go_enter Tryz.func75, Tryz.ntmps75
  go_wp2_with fail
  refine (dirOk_impl A n c ds hz _ HT.out hn Hr.out).mono ?_
  rintro e w1 ⟨rfl, hb1⟩
  rw [Hok.out]
  go_wp2
  refine bodyPost_ret (v := .tuple #[.slice none 0 0, .bool false]) (by simp [results, Tryz.results75, go_sem]) rfl ⟨chg_bad Hf.out rfl, hb1⟩
 ·have h12 : n ≤ 12 := by have := dir12 hok; have := HL.out; omega
  have Hok := Lib.hid hok
  clear hok
  go_enter Tryz.func75, Tryz.ntmps75
  go_wp2_with fail
  refine (dirOk_impl A n c ds hz _ HT.out hn Hr.out).mono ?_
  rintro e w1 ⟨rfl, hb1⟩
  rw [Hok.out]
  go_wp2_with fail
  refine (copyEnts_impl A n c ds (by omega) _ ((Hr.out.below hb1).more hb1.size)).mono ?_
  rintro e w2 ⟨v, rfl, own2, hb2⟩
  have Own2 := Lib.hid own2
  have B2 := belN hb1 hb2
  clear own2
  go_wp2_with fail
  refine (entAt_impl A n c ds hz hn s hs _ (HT.out.bl B2) ((Hr.out.below B2).more B2.size)).mono ?_
  rintro e w3 ⟨r, rfl, ha, hb3⟩
  have Own3 := Lib.hid (own_below Own2.out hb3 (Nat.le_refl _))
  have B3 := belN B2 hb3
  have hix := at_idx Hok.out ha
  clear ha Own2
  rcases hix with ⟨rfl, hf⟩ | ⟨k, hk, rfl, hf⟩
  ·have Hf := Lib.hid (dropP_no Hok.out hf)
   clear hf
   go_wp2
   refine bodyPost_ret (v := .tuple #[v, .bool false]) (by simp [results, Tryz.results75, go_sem]) rfl ⟨chg_end Hf.out rfl HL.out (own_more Own3.out hb1.size), B3⟩
  ·have Hf := Lib.hid (dropP_yes Hok.out hk hf)
   have hkn : k < n := by have := HL.out; omega
   have q0 : ¬ ((k : Int) < 0) := by omega
   obtain ⟨g, c2, rfl⟩ := own_form1 Own3.out (by omega)
   clear hf
   go_wp2_with fail
   refine (delE_any w1.heap.size n k g c2 ds _ (by omega) hkn HL.out (Nat.le_trans hb2.size hb3.size) Own3.out).mono ?_
   rintro e w4 ⟨v', rfl, own4, hb4⟩
   have Own4 := Lib.hid own4
   clear own4
   go_wp2
   refine bodyPost_ret (v := .tuple #[v', .bool true]) (by simp [results, Tryz.results75, go_sem]) rfl ⟨chg_end Hf.out rfl (by have := HL.out; simp; omega) (own_more Own4.out hb1.size), B3.trans (hb4.mono hb1.size)⟩

set_option maxRecDepth 100000 in
set_option maxHeartbeats 4000000 in
theorem respell_impl (A : Option Addr) (n c : Nat) (ds : List EntD) (hz : ∀ e ∈ ds, e.s.size ≤ 2000000) (hn : n ≤ 9223372036854775807) (s : ByteArray) (hs : s.size ≤ 2000000) (i : Int) (w : World) (hT : Tab w) (hr : Reads w w.heap.size 4 A n (ES ds)) :
  Calls Tryz.prog 76 #[.slice A n c, .string s, .int .i64 i] w fun e w' => ChgPost w (spellP ds s i) e w' ∧ Below w.heap.size w w' := by
 have hl : ds.length = n := by have := hr.1; rw [ES_length] at this; omega
 have Hr := Lib.hid hr
 have HL := Lib.hid hl
 have HT := Lib.hid hT
 clear hT hr hl
 rcases hok : dirOkB ds with _ | _
 ·have Hf := Lib.hid (spellP_bad (s := s) (id := i) hok)
  have Hok := Lib.hid hok
  clear hok
  go_enter Tryz.func76, Tryz.ntmps76
  go_wp2_with fail
  refine (dirOk_impl A n c ds hz _ HT.out hn Hr.out).mono ?_
  rintro e w1 ⟨rfl, hb1⟩
  rw [Hok.out]
  go_wp2
  refine bodyPost_ret (v := .tuple #[.slice none 0 0, .bool false]) (by simp [results, Tryz.results76, go_sem]) rfl ⟨chg_bad Hf.out rfl, hb1⟩
 ·have h12 : n ≤ 12 := by have := dir12 hok; have := HL.out; omega
  have Hok := Lib.hid hok
  clear hok
  go_enter Tryz.func76, Tryz.ntmps76
  go_wp2_with fail
  refine (dirOk_impl A n c ds hz _ HT.out hn Hr.out).mono ?_
  rintro e w1 ⟨rfl, hb1⟩
  rw [Hok.out]
  go_wp2_with fail
  refine (copyEnts_impl A n c ds (by omega) _ ((Hr.out.below hb1).more hb1.size)).mono ?_
  rintro e w2 ⟨v, rfl, own2, hb2⟩
  have Own2 := Lib.hid own2
  have B2 := belN hb1 hb2
  clear own2
  go_wp2_with fail
  refine (entAt_impl A n c ds hz hn s hs _ (HT.out.bl B2) ((Hr.out.below B2).more B2.size)).mono ?_
  rintro e w3 ⟨r, rfl, ha, hb3⟩
  have Own3 := Lib.hid (own_below Own2.out hb3 (Nat.le_refl _))
  have B3 := belN B2 hb3
  have hix := at_idx Hok.out ha
  clear ha Own2
  rcases hix with ⟨rfl, hf⟩ | ⟨k, hk, rfl, hf⟩
  ·have Hf := Lib.hid (spellP_no (id := i) Hok.out (.inl hf))
   clear hf
   go_wp2
   refine bodyPost_ret (v := .tuple #[v, .bool false]) (by simp [results, Tryz.results76, go_sem]) rfl ⟨chg_end Hf.out rfl HL.out (own_more Own3.out hb1.size), B3⟩
  ·have hkn : k < n := by have := HL.out; omega
   have q0 : ¬ ((k : Int) < 0) := by omega
   rcases hid : inI i 1 100000 with _ | _
   ·have Hf := Lib.hid (spellP_no (s := s) Hok.out (.inr hid))
    have Hid' := Lib.hid hid
    clear hf hid
    go_wp2_with fail
    refine (isId_q i _).mono ?_
    rintro e w4 ⟨rfl, rfl⟩
    rw [Hid'.out]
    go_wp2
    refine bodyPost_ret (v := .tuple #[v, .bool false]) (by simp [results, Tryz.results76, go_sem]) rfl ⟨chg_end Hf.out rfl HL.out (own_more Own3.out hb1.size), B3⟩
   ·have Hf := Lib.hid (spellP_yes Hok.out hk hf hid)
    have Hid' := Lib.hid hid
    obtain ⟨g, c2, rfl⟩ := own_form1 Own3.out (by omega)
    have hgw := (own_heap Own3.out).choose_spec.1
    have o1 := own_set (own_set Own3.out (k * 4 + 2) (.string s)) (k * 4 + 3) (.int .i64 i)
    have hx : ((ES ds).set (k * 4 + 2) (.string s)).set (k * 4 + 3) (.int .i64 i) = ES (ds.take k ++ [⟨ds[k].h, ds[k].i, s, i⟩] ++ ds.drop (k + 1)) := ES_spell hk s i
    rw [hx] at o1
    have O1 := Lib.hid o1
    obtain ⟨⟨u0, c0⟩, ⟨u1, c1⟩, ⟨u2, c2'⟩, ⟨u3, c3⟩⟩ := own_cells4 Own3.out k hkn
    have f2 := own_frozen Own3.out (k * 4 + 2)
    have f3 := own_frozen Own3.out (k * 4 + 3)
    have q1 : (0 : Int) ≤ (k : Int) := by omega
    have q2 : (k : Int) < (n : Int) := by omega
    clear hf hid o1 hx
    go_wp2_with fail
    refine (isId_q i _).mono ?_
    rintro e w4 ⟨rfl, rfl⟩
    rw [Hid'.out]
    go_wp2
    refine bodyPost_ret (v := .tuple #[.slice (some ⟨g, 0, none⟩) n c2, .bool true]) (by simp [results, Tryz.results76, go_sem]) rfl ⟨chg_end Hf.out rfl (by have := HL.out; simp; omega) (own_more O1.out hb1.size), (belC (belC B3 g (k * 4 + 2) (Nat.le_trans hb1.size hgw) (.string s)) g (k * 4 + 3) (Nat.le_trans hb1.size hgw) (.int .i64 i))⟩

/-- The same, the row's base named. -/
def ChgAt (base : Nat) (P : List EntD × Bool) (e : Ending) (w' : World) : Prop :=
 ∃ L b v n, P = (L, b) ∧ L.length = n ∧ e = .returned (.tuple #[v, .bool b]) ∧ w'.ownsRow base 66 4 v n (ES L)
theorem chgAt_end {base : Nat} {w' : World} {P : List EntD × Bool} {L : List EntD} {b : Bool} {n : Nat} {v u : Value} (h : P = (L, b)) (hv : v = .tuple #[u, .bool b]) (hn : L.length = n) (ho : w'.ownsRow base 66 4 u n (ES L)) : ChgAt base P (.returned v) w' := ⟨L, b, u, n, h, hn, by rw [hv], ho⟩
theorem lit_end {w w' : World} {P : List EntD × Bool} {g : Nat} {v : Value} (h : P = ([], false)) (hv : v = .tuple #[.slice (some ⟨g, 0, none⟩) 0 0, .bool false]) (hg : w.heap.size ≤ g) (hh : w'.heap[g]? = some (.cells #[] 66 (0, 0))) : ChgPost w P (.returned v) w' :=
 chg_end (n := 0) h hv rfl (own_of_heap hg hh (Nat.le_refl _) (by unfold maxLen; omega) rfl (by simp [ES]))
/-- What is behind an entry of a row of one's own, to read. -/
theorem own_tail {w : World} {base g n c k : Nat} {ds : List EntD} (h : w.ownsRow base 66 4 (.slice (some ⟨g, 0, none⟩) n c) n (ES ds)) (hk : k < n) :
  ∃ A : Addr, (if c = k + 1 then (some ⟨g, 0, none⟩ : Option Addr) else some ⟨g, (k + 1) * 4, none⟩) = some A ∧ Reads w w.heap.size 4 (some A) (n - (k + 1)) (ES (ds.drop (k + 1))) := by
 obtain ⟨cur, hb, hh, c1, c2, c3, c4⟩ := own_heap h
 have hg := (Array.getElem?_eq_some_iff.1 hh).1
 have hl : (ES (ds.drop (k + 1))).length = (n - (k + 1)) * 4 := by have := h.1; rw [ES_length] at this ⊢; rw [List.length_drop]; omega
 by_cases hc : c = k + 1
 ·exact ⟨⟨g, 0, none⟩, by rw [if_pos hc], hl, fun hp => by omega⟩
 ·exact ⟨⟨g, (k + 1) * 4, none⟩, by rw [if_neg hc], hl, fun _ => ⟨_, rfl, hg, fun j u hu => own_src h ((k + 1) * 4) j u (by rw [ES_drop]; exact hu)⟩⟩
theorem own_head {w : World} {base g n c k : Nat} {ds : List EntD} (h : w.ownsRow base 66 4 (.slice (some ⟨g, 0, none⟩) n c) n (ES ds)) (hk : k ≤ n) : Reads w w.heap.size 4 (some ⟨g, 0, none⟩) k (ES (ds.take k)) := by
 have h1 := own_cut h k hk
 rw [ES_take] at h1
 obtain ⟨A, c', he, _, _, hr⟩ := own_vals h1
 simp only [Value.slice.injEq] at he
 obtain ⟨rfl, _, _⟩ := he
 exact hr

set_option maxRecDepth 100000 in
set_option maxHeartbeats 4000000 in
theorem l5Drop_any (base n : Nat) (v : Value) (ds : List EntD) (hok : dirOkB ds = true) (hz : ∀ e ∈ ds, e.s.size ≤ 2000000) (s : ByteArray) (hs : s.size ≤ 2000000) (w : World) (hbase : base ≤ w.heap.size) (hown : w.ownsRow base 66 4 v n (ES ds)) :
  Calls Tryz.prog 80 #[v, .string s] w fun e w' => ChgAt base (dropP ds s) e w' ∧ Below w.heap.size w w' := by
 have hl : ds.length = n := by have := hown.1; rw [ES_length] at this; omega
 have h12 : n ≤ 12 := by have := dir12 hok; omega
 obtain ⟨A, c, rfl, hc1, hc2, hr⟩ := own_vals hown
 unfold maxLen at hc2
 have Hr := Lib.hid hr
 have HL := Lib.hid hl
 have Hok := Lib.hid hok
 have Own := Lib.hid hown
 clear hr hl hok hown
 go_enter Tryz.func80, Tryz.ntmps80
 go_wp2_with fail
 refine (l5At_any A n c ds hz (by omega) s hs _ Hr.out).mono ?_
 rintro e w1 ⟨r, rfl, hix, hb1⟩
 have Own1 := Lib.hid (own_below Own.out hb1 (Nat.le_refl _))
 clear Own
 rcases hix with ⟨rfl, hf⟩ | ⟨k, hk, rfl, hf⟩
 ·have Hf := Lib.hid (dropP_no Hok.out hf)
  clear hf
  go_wp2
  refine bodyPost_ret (v := .tuple #[.slice A n c, .bool false]) (by simp [results, Tryz.results80, go_sem]) rfl ⟨chgAt_end Hf.out rfl HL.out Own1.out, hb1⟩
 ·have Hf := Lib.hid (dropP_yes Hok.out hk hf)
  have hkn : k < n := by have := HL.out; omega
  have q0 : ¬ ((k : Int) < 0) := by omega
  obtain ⟨g, c', he⟩ := own_form1 Own1.out (by omega)
  simp only [Value.slice.injEq] at he
  obtain ⟨rfl, _, rfl⟩ := he
  obtain ⟨A2, hA2, hrt⟩ := own_tail Own1.out hkn
  have hrh := own_head Own1.out (show k ≤ n by omega)
  have Hrt := Lib.hid hrt
  have Hrh := Lib.hid hrh
  have hlit := Lib.hid (World.ownsRow_lit (e := 66) (size := 4) w1 #[] 0 (Nat.le_refl _) (by unfold maxLen; omega) rfl)
  have q1 : (0 : Int) ≤ (k : Int) := by omega
  have q2 : k ≤ c := by omega
  have q3 : (k : Int) ≤ (c : Int) := by omega
  have q4 : (0 : Int) ≤ (k : Int) + 1 := by omega
  have q5 : (k : Int) + 1 ≤ (n : Int) := by omega
  have q6 : ((k : Int) + 1).toNat = k + 1 := by omega
  have q7 : IntKind.i64.wrap ((k : Int) + 1) = (k : Int) + 1 := by rw [IntKind.wrap_i64]; omega
  have q8 : k + 1 ≤ n := by omega
  clear hf hrt hrh
  go_wp2_with (first
   | (at_builtin; refine wpList_app _ rfl _ _ _ rfl Tryz.el_ent hlit.out rfl ((Hrh.out.below (belA (bel0 w1) _)).more (Nat.le_succ _)) rfl (ES_cells _) (by unfold maxLen; omega) (by omega) (by simp) ?_; intro v2 w2 own2 _ _ hb2; rw [Nat.zero_add] at own2; have Own2 := Lib.hid own2; have B2 := Lib.hid ((belA (bel0 w1) (.cells #[] 66)).trans hb2); clear own2 hb2)
   | (at_builtin; refine wpList_app _ rfl _ _ _ rfl Tryz.el_ent Own2.out rfl ((Hrt.out.below B2.out).more B2.out.size) rfl (ES_cells _) (by unfold maxLen; omega) (by omega) (B2.out.size) ?_; intro v3 w3 own3 _ _ hb3; have Own3 := Lib.hid own3; have B3 := Lib.hid (B2.out.trans hb3); clear own3 hb3))
  have h3 := Own3.out
  rw [show ([] : List Value) ++ ES (ds.take k) = ES (ds.take k) from rfl, ← ES_append] at h3
  refine bodyPost_ret (v := .tuple #[v3, .bool true]) (by simp [results, Tryz.results80, go_sem]) rfl ⟨chgAt_end Hf.out rfl (by have := HL.out; simp; omega) (own_more h3 (Nat.le_trans hbase hb1.size)), belN hb1 B3.out⟩

set_option maxRecDepth 100000 in
set_option maxHeartbeats 4000000 in
theorem drop_spec (A : Option Addr) (n c : Nat) (ds : List EntD) (hz : ∀ e ∈ ds, e.s.size ≤ 2000000) (hn : n ≤ 9223372036854775807) (s : ByteArray) (hs : s.size ≤ 2000000) (w : World) (hr : Reads w w.heap.size 4 A n (ES ds)) :
  Calls Tryz.prog 39 #[.slice A n c, .string s] w fun e w' => ChgPost w (dropP ds s) e w' ∧ Below w.heap.size w w' := by
 have hl : ds.length = n := by have := hr.1; rw [ES_length] at this; omega
 have Hr := Lib.hid hr
 have HL := Lib.hid hl
 clear hr hl
 rcases hok : dirOkB ds with _ | _
 ·have Hf := Lib.hid (dropP_bad (s := s) hok)
  have Hok := Lib.hid hok
  clear hok
  go_enter Tryz.func39, Tryz.ntmps39
  go_wp2_with fail
  refine (dirOk_spec A n c ds hz _ hn Hr.out).mono ?_
  rintro e w1 ⟨rfl, hb1⟩
  rw [Hok.out]
  go_wp2
  refine bodyPost_ret (v := .tuple #[.slice (some ⟨w1.heap.size, 0, none⟩) 0 0, .bool false]) (by simp [results, Tryz.results39, go_sem]) rfl ⟨lit_end Hf.out rfl hb1.size (heap_alloc_new w1 _), belA hb1 _⟩
 ·have h12 : n ≤ 12 := by have := dir12 hok; have := HL.out; omega
  have Hok := Lib.hid hok
  clear hok
  go_enter Tryz.func39, Tryz.ntmps39
  go_wp2_with fail
  refine (dirOk_spec A n c ds hz _ hn Hr.out).mono ?_
  rintro e w1 ⟨rfl, hb1⟩
  rw [Hok.out]
  go_wp2_with fail
  refine (l5Copy_any A n c ds (by omega) _ ((Hr.out.below hb1).more hb1.size)).mono ?_
  rintro e w2 ⟨v, rfl, own2, hb2⟩
  have Own2 := Lib.hid own2
  have B2 := belN hb1 hb2
  clear own2
  go_wp2_with fail
  refine (l5Drop_any w1.heap.size n v ds Hok.out hz s hs _ hb2.size Own2.out).mono ?_
  rintro e w3 ⟨⟨L, b, u, m, hL, hm, rfl, own3⟩, hb3⟩
  have HP := Lib.hid hL
  have Own3 := Lib.hid own3
  have Hm := Lib.hid hm
  clear hL own3 hm
  go_wp2
  refine bodyPost_ret (v := .tuple #[u, .bool b]) (by simp [results, Tryz.results39, go_sem]) rfl ⟨chg_end HP.out rfl Hm.out (own_more Own3.out hb1.size), belN B2 hb3⟩

set_option maxRecDepth 100000 in
set_option maxHeartbeats 4000000 in
theorem l5Respell_any (base n : Nat) (v : Value) (ds : List EntD) (hok : dirOkB ds = true) (hz : ∀ e ∈ ds, e.s.size ≤ 2000000) (s : ByteArray) (hs : s.size ≤ 2000000) (i : Int) (w : World) (hbase : base ≤ w.heap.size) (hown : w.ownsRow base 66 4 v n (ES ds)) :
  Calls Tryz.prog 81 #[v, .string s, .int .i64 i] w fun e w' => ChgAt base (spellP ds s i) e w' ∧ Below base w w' := by
 have hl : ds.length = n := by have := hown.1; rw [ES_length] at this; omega
 have h12 : n ≤ 12 := by have := dir12 hok; omega
 obtain ⟨A, c, rfl, hc1, hc2, hr⟩ := own_vals hown
 have Hr := Lib.hid hr
 have HL := Lib.hid hl
 have Hok := Lib.hid hok
 have Own := Lib.hid hown
 clear hr hl hok hown
 go_enter Tryz.func81, Tryz.ntmps81
 go_wp2_with fail
 refine (l5At_any A n c ds hz (by omega) s hs _ Hr.out).mono ?_
 rintro e w1 ⟨r, rfl, hix, hb1⟩
 have Own3 := Lib.hid (own_below Own.out hb1 (Nat.le_refl _))
 have B3 := hb1.mono hbase
 clear Own
 rcases hix with ⟨rfl, hf⟩ | ⟨k, hk, rfl, hf⟩
 ·have Hf := Lib.hid (spellP_no (id := i) Hok.out (.inl hf))
  clear hf
  go_wp2
  refine bodyPost_ret (v := .tuple #[.slice A n c, .bool false]) (by simp [results, Tryz.results81, go_sem]) rfl ⟨chgAt_end Hf.out rfl HL.out Own3.out, B3⟩
 ·have hkn : k < n := by have := HL.out; omega
  have q0 : ¬ ((k : Int) < 0) := by omega
  rcases hid : inI i 1 100000 with _ | _
  ·have Hf := Lib.hid (spellP_no (s := s) Hok.out (.inr hid))
   have Hid' := Lib.hid hid
   clear hf hid
   go_wp2_with fail
   refine (l1In_any i 1 100000 _).mono ?_
   rintro e w4 ⟨rfl, hw⟩
   subst hw
   rw [Hid'.out]
   go_wp2
   refine bodyPost_ret (v := .tuple #[.slice A n c, .bool false]) (by simp [results, Tryz.results81, go_sem]) rfl ⟨chgAt_end Hf.out rfl HL.out Own3.out, B3⟩
  ·have Hf := Lib.hid (spellP_yes Hok.out hk hf hid)
   have Hid' := Lib.hid hid
   obtain ⟨g, c2, he⟩ := own_form1 Own3.out (by omega)
   simp only [Value.slice.injEq] at he
   obtain ⟨rfl, _, rfl⟩ := he
   have hgw := (own_heap Own3.out).choose_spec.1
   have o1 := own_set (own_set Own3.out (k * 4 + 2) (.string s)) (k * 4 + 3) (.int .i64 i)
   have hx : ((ES ds).set (k * 4 + 2) (.string s)).set (k * 4 + 3) (.int .i64 i) = ES (ds.take k ++ [⟨ds[k].h, ds[k].i, s, i⟩] ++ ds.drop (k + 1)) := ES_spell hk s i
   rw [hx] at o1
   have O1 := Lib.hid o1
   obtain ⟨⟨u0, c0⟩, ⟨u1, c1⟩, ⟨u2, c2'⟩, ⟨u3, c3⟩⟩ := own_cells4 Own3.out k hkn
   have f2 := own_frozen Own3.out (k * 4 + 2)
   have f3 := own_frozen Own3.out (k * 4 + 3)
   have q1 : (0 : Int) ≤ (k : Int) := by omega
   have q2 : (k : Int) < (n : Int) := by omega
   clear hf hid o1 hx
   go_wp2_with fail
   refine (l1In_any i 1 100000 _).mono ?_
   rintro e w4 ⟨rfl, hw⟩
   subst hw
   rw [Hid'.out]
   go_wp2
   refine bodyPost_ret (v := .tuple #[.slice (some ⟨g, 0, none⟩) n c, .bool true]) (by simp [results, Tryz.results81, go_sem]) rfl ⟨chgAt_end Hf.out rfl (by have := HL.out; simp; omega) O1.out, (B3.setCell (p := ⟨g, k * 4 + 2, none⟩) hgw (.string s)).setCell (p := ⟨g, k * 4 + 3, none⟩) hgw (.int .i64 i)⟩

set_option maxRecDepth 100000 in
set_option maxHeartbeats 4000000 in
theorem respell_spec (A : Option Addr) (n c : Nat) (ds : List EntD) (hz : ∀ e ∈ ds, e.s.size ≤ 2000000) (hn : n ≤ 9223372036854775807) (s : ByteArray) (hs : s.size ≤ 2000000) (i : Int) (w : World) (hr : Reads w w.heap.size 4 A n (ES ds)) :
  Calls Tryz.prog 40 #[.slice A n c, .string s, .int .i64 i] w fun e w' => ChgPost w (spellP ds s i) e w' ∧ Below w.heap.size w w' := by
 have hl : ds.length = n := by have := hr.1; rw [ES_length] at this; omega
 have Hr := Lib.hid hr
 have HL := Lib.hid hl
 clear hr hl
 rcases hok : dirOkB ds with _ | _
 ·have Hf := Lib.hid (spellP_bad (s := s) (id := i) hok)
  have Hok := Lib.hid hok
  clear hok
  go_enter Tryz.func40, Tryz.ntmps40
  go_wp2_with fail
  refine (dirOk_spec A n c ds hz _ hn Hr.out).mono ?_
  rintro e w1 ⟨rfl, hb1⟩
  rw [Hok.out]
  go_wp2
  refine bodyPost_ret (v := .tuple #[.slice (some ⟨w1.heap.size, 0, none⟩) 0 0, .bool false]) (by simp [results, Tryz.results40, go_sem]) rfl ⟨lit_end Hf.out rfl hb1.size (heap_alloc_new w1 _), belA hb1 _⟩
 ·have h12 : n ≤ 12 := by have := dir12 hok; have := HL.out; omega
  have Hok := Lib.hid hok
  clear hok
  go_enter Tryz.func40, Tryz.ntmps40
  go_wp2_with fail
  refine (dirOk_spec A n c ds hz _ hn Hr.out).mono ?_
  rintro e w1 ⟨rfl, hb1⟩
  rw [Hok.out]
  go_wp2_with fail
  refine (l5Copy_any A n c ds (by omega) _ ((Hr.out.below hb1).more hb1.size)).mono ?_
  rintro e w2 ⟨v, rfl, own2, hb2⟩
  have Own2 := Lib.hid own2
  have B2 := belN hb1 hb2
  clear own2
  go_wp2_with fail
  refine (l5Respell_any w1.heap.size n v ds Hok.out hz s hs i _ hb2.size Own2.out).mono ?_
  rintro e w3 ⟨⟨L, b, u, m, hL, hm, rfl, own3⟩, hb3⟩
  have HP := Lib.hid hL
  have Own3 := Lib.hid own3
  have Hm := Lib.hid hm
  clear hL own3 hm
  go_wp2
  refine bodyPost_ret (v := .tuple #[u, .bool b]) (by simp [results, Tryz.results40, go_sem]) rfl ⟨chg_end HP.out rfl Hm.out (own_more Own3.out hb1.size), B2.trans (hb3.mono hb1.size)⟩

end Go.Proofs.YtghgafbfpejinaaGreatDoor
