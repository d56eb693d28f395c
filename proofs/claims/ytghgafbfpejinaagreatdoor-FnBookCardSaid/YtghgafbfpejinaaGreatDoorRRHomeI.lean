/- A whole directory read from its text: the program's walk. -/
import Derived.Test.YtghgafbfpejinaaGreatDoorRRHome
import Derived.Test.YtghgafbfpejinaaGreatDoorRIsPg
namespace Go.Proofs.YtghgafbfpejinaaGreatDoor
open Go Go.RowKit

theorem own_gb {w w' : World} {base n size g : Nat} {e : TypeId} {v : Value} {xs : List Value} (hown : w.ownsRow base e size v n xs) (hg : w.grownBy w' (some g)) (hgb : g < base) : w'.ownsRow base e size v n xs := by
 obtain ⟨h1, h2⟩ := hown
 refine ⟨h1, ?_⟩
 rcases h2 with h2 | ⟨g', cap, cur, hv, hb, hh, r⟩
 ·exact .inl h2
 ·refine .inr ⟨g', cap, cur, hv, hb, ?_, r⟩
  have hlt : g' < w.heap.size := (Array.getElem?_eq_some_iff.1 hh).1
  rw [hg.block g' hlt (by simp; omega)]
  exact hh
theorem own_is {w : World} {base n : Nat} {v : Value} {l : List EntD} (h : w.ownsRow base 66 4 v n (ES l)) (hn : l.length = n) : IsS w v l := by
 subst hn
 obtain ⟨A, c, rfl, _, _, hr⟩ := own_vals h
 exact ⟨A, c, rfl, hr⟩
theorem own_nil (w : World) (base size : Nat) (e : TypeId) : w.ownsRow base e size (.slice none 0 0) 0 [] := ⟨by simp, .inl ⟨rfl, rfl⟩⟩
/-- What ReadHome leaves. -/
def HomePost (w : World) (T : TypeId) (s : ByteArray) (e : Ending) (w' : World) : Prop :=
 ∃ v, e = .returned (.tuple #[.int .i64 (homeP s).1.1, v, .bool (homeP s).2]) ∧ w'.ownsRow w.heap.size T 4 v (homeP s).1.2.length (ES (homeP s).1.2)
theorem home_no {w w' : World} {T : TypeId} {s : ByteArray} (h : homeP s = ((0, []), false)) {v u : Value} (hv : v = .tuple #[.int .i64 0, u, .bool false]) (ho : w'.ownsRow w.heap.size T 4 u 0 []) : HomePost w T s (.returned v) w' := by
 refine ⟨u, ?_, ?_⟩
 ·rw [h, hv]
 ·rw [h]; exact ho
theorem home_yes {w w' : World} {T : TypeId} {s : ByteArray} {q : Int} {l : List EntD} {n : Nat} (h : homeP s = ((q, l), true)) {v u : Value} (hv : v = .tuple #[.int .i64 q, u, .bool true]) (hn : l.length = n) (ho : w'.ownsRow w.heap.size T 4 u n (ES l)) : HomePost w T s (.returned v) w' := by
 refine ⟨u, ?_, ?_⟩
 ·rw [h, hv]
 ·rw [h]; rw [hn]; exact ho
theorem hd3_pos {s : ByteArray} (h : (hd3 s).2.2 = false) : 5 ≤ s.size := by
 rcases head_at s with ⟨_, _, q, _, h1, h2, _⟩ | ⟨h1, _⟩
 ·omega
 ·have := itE_bad (hd2 s).2.1 (hd2 s).2.2 0 h1 (hd2 s).1.toNat
  rw [Nat.zero_add] at this
  unfold hd3 at h; rw [this] at h; cases h

set_option maxRecDepth 100000 in
set_option maxHeartbeats 4000000 in
theorem readHome_impl (s : ByteArray) (hs : s.size ≤ 2000000) (w : World) (hT : Tab w) :
  Calls Tryz.prog 31 #[.string s] w fun e w' => HomePost w 66 s e w' ∧ Below w.heap.size w w' := by
 have HT := Lib.hid hT
 clear hT
 have z0 := scC_small s false 5
 have z1 := scN_small (hd0 s).2.1 (hd0 s).2.2
 have z2 := scM_small (hd1 s).2.1 (hd1 s).2.2 12 (by omega)
 obtain ⟨t0, R0, b0, h0⟩ : ∃ t0 R0 b0, hd0 s = (t0, R0, b0) := ⟨_, _, _, rfl⟩
 obtain ⟨q, R1, b1, h1⟩ : ∃ q R1 b1, hd1 s = (q, R1, b1) := ⟨_, _, _, rfl⟩
 obtain ⟨m, R2, b2, h2⟩ : ∃ m R2 b2, hd2 s = (m, R2, b2) := ⟨_, _, _, rfl⟩
 have e0 : scC s false 5 = (t0, R0, b0) := h0
 have e1 : scN R0 b0 = (q, R1, b1) := by have := h1; unfold hd1 at this; rw [h0] at this; exact this
 have e2 : scM R1 b1 12 = (m, R2, b2) := by have := h2; unfold hd2 at this; rw [h1] at this; exact this
 rw [e0] at z0
 rw [h0] at z1
 simp only at z1
 rw [e1] at z1
 rw [h1] at z2
 simp only at z2
 rw [e2] at z2
 simp only at z0 z1 z2
 obtain ⟨N, rfl⟩ : ∃ N : Nat, m = (N : Int) := ⟨m.toNat, by omega⟩
 have Hd := Lib.hid (show hd3 s = itE R2 b2 N by unfold hd3; rw [h2]; rfl)
 have Hq := Lib.hid (show (hd1 s).1 = q by rw [h1])
 have E0 := Lib.hid e0
 have E1 := Lib.hid e1
 have E2 := Lib.hid e2
 have zN : N ≤ 12 := by omega
 have zR : R2.size ≤ 2000000 := by omega
 have zR1 : R1.size ≤ 2000000 := by omega
 have zR0 : R0.size ≤ 2000000 := by omega
 clear h0 h1 h2 e0 e1 e2 z0 z1 z2
 go_enter Tryz.func31, Tryz.ntmps31
 go_wp2_with fail
 refine (cut_any w.heap.size s false 5 _ (Blk.new' _ _ _ _)).mono ?_
 rw [E0.out]
 rintro e w1 ⟨rfl, hB1, hg1⟩
 have bl1 := belG (belA (bel0 w) _) hg1 (Nat.le_refl _)
 simp only at hB1 ⊢
 go_wp2_with fail
 refine (num_any w.heap.size R0 b0 (by omega) _ hB1).mono ?_
 rw [E1.out]
 rintro e w2 ⟨rfl, hB2, hg2⟩
 have bl2 := belG bl1 hg2 (Nat.le_refl _)
 simp only at hB2 ⊢
 go_wp2_with fail
 refine (many_any w.heap.size R1 b1 12 (by omega) (by omega) _ hB2).mono ?_
 rw [E2.out]
 rintro e w3 ⟨rfl, hB3, hg3⟩
 have bl3 := belG bl2 hg3 (Nat.le_refl _)
 simp only at hB3 ⊢
 clear hB1 hB2 hg1 hg2 hg3 bl1 bl2
 have lt3 := hB3.lt
 go_wp2_with fail
 have own0 := World.ownsRow_lit (e := 66) (size := 4) w3 #[] 0 (Nat.le_refl _) (by unfold maxLen; omega) rfl
 have Own0 := Lib.hid (own_more own0 (show w.heap.size + 1 ≤ w3.heap.size by have := bl3.size; have := lt3; omega))
 have Bs0 := Lib.hid (hB3.alloc (.cells #[] 66))
 have Bl0 := Lib.hid (belA bl3 (.cells #[] 66))
 clear own0 hB3 bl3 lt3
 go_loopw [8, 21] (fun v i wr => ∃ (k : Nat) (l : List EntD) (R : ByteArray) (b : Bool), k ≤ N ∧ i = .int .i64 k ∧ Hid (itE R2 b2 k = (l, R, b)) ∧ wr.ownsRow (w.heap.size + 1) 66 4 v k (ES l) ∧ Blk wr w.heap.size 91 #[.string R, .bool b] ∧ Below w.heap.size w wr)
  (fun _ i _ => N - (intOf i).toNat)
 case atStart => exact ⟨0, [], R2, b2, by omega, rfl, rfl, Own0.out, Bs0.out, Bl0.out⟩
 case round =>
  clear Own0 Bs0 Bl0
  obtain ⟨k, l, R, b, hk, rfl, hit, hown, hB, hbel⟩ := hrel
  have Own := Lib.hid hown
  have hlw := hB.lt
  clear hown
  have hsmR := itE_small R2 b2 k
  rw [hit.out] at hsmR
  obtain ⟨zRR, hll, _⟩ := hsmR
  simp only at zRR hll
  by_cases hlt : k < N
  ·obtain ⟨i1, Ra, ba, ea⟩ : ∃ i1 Ra ba, scN R b = (i1, Ra, ba) := ⟨_, _, _, rfl⟩
   obtain ⟨d1, Rb, bb, eb⟩ : ∃ d1 Rb bb, scN Ra ba = (d1, Rb, bb) := ⟨_, _, _, rfl⟩
   obtain ⟨t1, Rc, bc, ec⟩ : ∃ t1 Rc bc, scP Rb bb = (t1, Rc, bc) := ⟨_, _, _, rfl⟩
   have za := scN_small R b
   have zb := scN_small Ra ba
   have zc := scP_small Rb bb
   rw [ea] at za
   rw [eb] at zb
   rw [ec] at zc
   simp only at za zb zc
   have zt : t1.size ≤ 2000000 := by omega
   have Hst := Lib.hid (itE_succ hit.out (stE_is ea eb ec))
   have Ea := Lib.hid ea
   have Eb := Lib.hid eb
   have Ec := Lib.hid ec
   clear ea eb ec
   have q0 : (0 : Int) ≤ ↑k := by omega
   have q1 : (↑k : Int) < ↑N := by omega
   go_wp2_with fail
   refine (num_any w.heap.size R b (by omega) _ hB).mono ?_
   rw [Ea.out]
   rintro e w4 ⟨rfl, hB4, hg4⟩
   have own4 := Lib.hid (own_gb Own.out hg4 (by omega))
   have b4 := belG hbel hg4 (Nat.le_refl _)
   simp only at hB4 ⊢
   clear hB hg4 Own hbel
   have lt4 := hB4.lt
   have hE4 := Blk.new' w4 66 #[.int .i64 0, .int .i64 i1, .string ⟨#[]⟩, .int .i64 0] w4.heap.size
   have hB4a := hB4.alloc (.cells #[.int .i64 0, .int .i64 i1, .string ⟨#[]⟩, .int .i64 0] 66)
   have own4a := Lib.hid (own4.out.alloc (.cells #[.int .i64 0, .int .i64 i1, .string ⟨#[]⟩, .int .i64 0] 66))
   have b4a := belA b4 (.cells #[.int .i64 0, .int .i64 i1, .string ⟨#[]⟩, .int .i64 0] 66)
   have hne := Lib.hid (show u8.ownBlock ≠ some w4.heap.size from fun e => absurd (own4.out.lt _ e).2 (Nat.lt_irrefl _))
   clear own4 b4 hB4
   go_wp2_with fail
   refine (num_any w.heap.size Ra ba (by omega) _ hB4a).mono ?_
   rw [Eb.out]
   rintro e w5 ⟨rfl, hB5, hg5⟩
   simp only at hB5 ⊢
   have own5 := Lib.hid (own_gb own4a.out hg5 (by omega))
   have b5 := belG b4a hg5 (Nat.le_refl _)
   have hE5 := hE4.grown hg5 (by simp; omega)
   clear own4a b4a hE4 hB4a hg5
   have f53 := hE5.frozen 3
   have c53 := hE5.get 3 rfl
   have l5 := hE5.lt
   have own5a := Lib.hid (own5.out.kept (only_setCell (p := ⟨w4.heap.size, 3, none⟩) (grown_refl w5 (some w4.heap.size)) (.inl rfl) (.int .i64 d1)) (.inr hne.out))
   have hB5a := hB5.far (p := ⟨w4.heap.size, 3, none⟩) (show w.heap.size ≠ w4.heap.size by omega) (.int .i64 d1)
   have hE5a := hE5.put 3 (.int .i64 d1) _ rfl
   have b5a := belC b5 w4.heap.size 3 (by omega) (.int .i64 d1)
   clear own5 hB5 hE5 b5
   go_wp2_with fail
   refine (pieceR_any w.heap.size Rb bb (by omega) _ hB5a).mono ?_
   rw [Ec.out]
   rintro e w6 ⟨rfl, hB6, hg6⟩
   simp only at hB6 ⊢
   have own6 := Lib.hid (own_gb own5a.out hg6 (by omega))
   have b6 := belG b5a hg6 (Nat.le_refl _)
   have hE6 := hE5a.grown hg6 (by simp; omega)
   clear own5a b5a hE5a hB5a hg6 c53 f53
   have f62 := hE6.frozen 2
   have c62 := hE6.get 2 rfl
   have l6 := hE6.lt
   have own6a := Lib.hid (own6.out.kept (only_setCell (p := ⟨w4.heap.size, 2, none⟩) (grown_refl w6 (some w4.heap.size)) (.inl rfl) (.string t1)) (.inr hne.out))
   have hB6a := hB6.far (p := ⟨w4.heap.size, 2, none⟩) (show w.heap.size ≠ w4.heap.size by omega) (.string t1)
   have hE6a := hE6.put 2 (.string t1) _ rfl
   have b6a := belC b6 w4.heap.size 2 (by omega) (.string t1)
   clear own6 hB6 hE6 b6
   go_wp2_with fail
   refine (hashOf_impl t1 zt _ (HT.out.bl b6a)).mono ?_
   rintro e w7 ⟨rfl, hb7⟩
   have own7 := Lib.hid (own_below own6a.out hb7 (Nat.le_refl _))
   have hB7 := hB6a.below hb7 hB6a.lt
   have hE7 := hE6a.below hb7 hE6a.lt
   have b7 := belN b6a hb7
   clear own6a hB6a hE6a b6a f62 c62
   have f70 := hE7.frozen 0
   have c70 := hE7.get 0 rfl
   have c71 := hE7.get 1 rfl
   have c72 := hE7.get 2 rfl
   have c73 := hE7.get 3 rfl
   have l7 := hE7.lt
   have own7a := Lib.hid (own7.out.kept (only_setCell (p := ⟨w4.heap.size, 0, none⟩) (grown_refl w7 (some w4.heap.size)) (.inl rfl) (.int .i64 (hashI t1))) (.inr hne.out))
   have hB7a := hB7.far (p := ⟨w4.heap.size, 0, none⟩) (show w.heap.size ≠ w4.heap.size by omega) (.int .i64 (hashI t1))
   have b7a := belC b7 w4.heap.size 0 (by omega) (.int .i64 (hashI t1))
   clear own7 hE7 b7 hB7
   have hlit := reads_new (w7.setCell ⟨w4.heap.size, 0, none⟩ (.int .i64 (hashI t1))) #[.int .i64 (hashI t1), .int .i64 i1, .string t1, .int .i64 d1] 66 4 1 rfl
   rw [show (w7.setCell ⟨w4.heap.size, 0, none⟩ (.int .i64 (hashI t1))).heap.size = w7.heap.size by simp] at hlit
   go_wp2_with (at_builtin; go_must (refine wpList_app _ rfl _ _ _ rfl Tryz.el_ent (own7a.out.alloc _) rfl hlit rfl (by simp [Value.oneCell']) (max_small (by omega)) (by omega) (by have := b7a.size; simp at this ⊢; omega) ?_); intro v8 w8 own8 hg8 _ hb8)
   go_roundw
   case rel =>
    refine ⟨k + 1, l ++ [⟨hashI t1, i1, t1, d1⟩], Rc, bc, by omega, by go_num, Hst, ?_, ?_, ?_⟩
    ·rw [ES_append]; exact own8
    ·exact (hB7a.alloc _).below hb8 (by omega)
    ·exact (belA b7a _).trans (hb8.mono (by omega))
   case measure => simp [intOf]; omega
  ·obtain rfl : k = N := by omega
   have c1 := hB.get 1 rfl
   have c1l := hB.lt
   have Hd2 := Lib.hid (Hd.out.trans hit.out)
   have hbd := itE_small R2 b2 k
   rw [hit.out] at hbd
   simp only at hbd
   have hzs : ∀ e ∈ l, e.s.size ≤ 2000000 := fun e he => by have := hbd.2.2 e he; omega
   rcases b with _ | _
   ·have h5 := hd3_pos (s := s) (by rw [Hd2.out])
    have hne0 := not_empty s (by omega)
    have Hsh := fun W hW => showHome_impl0 q u8 l hzs (by omega) W hW
    by_cases hsame : showHomeB q l = s
    ·have Hp := Lib.hid (show homeP s = ((q, l), true) by
      have := homeP_yes (s := s) (by rw [Hd2.out]) (by omega) (by rw [Hd2.out, Hq.out]; exact hsame)
      rw [this, Hd2.out, Hq.out])
     have hq := seq_true hsame
     clear hsame
     go_wp2_with fail
     refine (Hsh _ (HT.out.bl hbel) (own_is Own.out hll)).mono ?_
     rintro e w4 ⟨rfl, hb4⟩
     have own4 := Lib.hid (own_below Own.out hb4 (Nat.le_refl _))
     go_wp2_with fail
     refine bodyPost_ret (v := .tuple #[.int .i64 q, u8, .bool true]) (by simp [results, Tryz.results31, go_sem]) rfl ⟨home_yes Hp.out rfl hll (own_more own4.out (by omega)), belN hbel hb4⟩
    ·have Hp := Lib.hid (homeP_no (s := s) (.inr (.inr (by rw [Hd2.out, Hq.out]; exact hsame))))
     have hq := seq_false hsame
     clear hsame
     go_wp2_with fail
     refine (Hsh _ (HT.out.bl hbel) (own_is Own.out hll)).mono ?_
     rintro e w4 ⟨rfl, hb4⟩
     go_wp2_with fail
     refine bodyPost_ret (v := .tuple #[.int .i64 0, .slice none 0 0, .bool false]) (by simp [results, Tryz.results31, go_sem]) rfl ⟨home_no Hp.out rfl (own_nil _ _ _ _), belN hbel hb4⟩
   ·have Hp := Lib.hid (homeP_no (s := s) (.inl (by rw [Hd2.out])))
    go_wp2_with fail
    refine bodyPost_ret (v := .tuple #[.int .i64 0, .slice none 0 0, .bool false]) (by simp [results, Tryz.results31, go_sem]) rfl ⟨home_no Hp.out rfl (own_nil _ _ _ _), hbel⟩

end Go.Proofs.YtghgafbfpejinaaGreatDoor
