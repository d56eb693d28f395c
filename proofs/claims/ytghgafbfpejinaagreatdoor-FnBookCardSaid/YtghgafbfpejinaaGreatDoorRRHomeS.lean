/- A whole directory read from its text: the reference's walk. -/
import Derived.Test.YtghgafbfpejinaaGreatDoorRRHomeI
import Derived.Test.YtghgafbfpejinaaGreatDoorRDp
import Derived.Deep.RegionHeld3
namespace Go.Proofs.YtghgafbfpejinaaGreatDoor
open Go Go.RowKit

theorem own_cel2 {w : World} {base : Nat} {e : TypeId} {v : Value} {x y : Nat} (h : w.ownsRow base e 1 v 2 (I64 [x, y])) : ∃ g c, v = .slice (some ⟨g, 0, none⟩) 2 c ∧ base ≤ g ∧ w.cell? ⟨g, 0, none⟩ = some (.int .i64 x) ∧ w.cell? ⟨g, 1, none⟩ = some (.int .i64 y) := by
 obtain ⟨g, c, rfl, hb, hl⟩ := h.form (by omega)
 exact ⟨g, c, rfl, hb, by have := h.cellAt 0 (by omega); simpa [I64] using this, by have := h.cellAt 1 (by omega); simpa [I64] using this⟩
theorem scN_pair_bad {R : ByteArray} {b : Bool} (h : (scN (scN R b).2.1 (scN R b).2.2).2.2 = true) : stE R b = (⟨hashI (str []), (scN R b).1, str [], (scN (scN R b).2.1 (scN R b).2.2).1⟩, (scN (scN R b).2.1 (scN R b).2.2).2.1, true) := by
 unfold stE scP; rw [h, scN_bad2]; simp only; rw [scC_bad2]
theorem takeAt_neg (s : ByteArray) : takeAt s (-1) = none := by unfold takeAt; rw [varsAt_succ, if_pos (.inl (by omega))]

section
variable {P : Program} (w : World)
/-- append at a step of a drawn region. -/
theorem step_app {ops : Array Oper} {o : Oper} {a : Act} {K : Act → World → Prop} {Q : Exit → Act → World → Prop} {E : Prop} (hgd : o.guard = none) (s x : Operand) (t : TypeId)
  (ho : o.op = .call { callee := .builtin .append, args := #[s, x], argTypes := #[t, t] })
  {e : TypeId} {z : Value} {size bytes : Nat} (hE : ElemOk P t e z size bytes)
  {base : Nat} {v : Value} {n : Nat} {xs : List Value} (hown : w.ownsRow base e size v n xs) (hs : a.eval s = v)
  {B : Nat} {A : Option Addr} {m c : Nat} {news : List Value} (hr : Reads w B size A m news) (hx : a.eval x = .slice A m c) (h1 : ∀ u ∈ news, u.oneCell' = true)
  (h63 : n + m ≤ maxLen) (hbytes : (n + m) * bytes ≤ 140737488355328) (hbase : base ≤ w.heap.size)
  (h : ∀ v' w', w'.ownsRow base e size v' (n + m) (xs ++ news) → w.grownBy w' v.ownBlock → (v'.ownBlock = v.ownBlock ∨ v'.ownBlock = some w.heap.size) → Below base w w' → K (a.put o.dst v') w') :
  if Region.wanted o (yielded ops a.tmps) = true then Oper.wp P o a w K Q else E := by
 obtain ⟨i, hi, hz, hsize, hby⟩ := info_parts hE.hi
 exact step_append_any w hgd s x t ho base e i z size bytes hE.ht hi hz hsize hby hE.hzs hE.hsz v n xs hs hown B A m c news hx hr h1 h63 hbytes hbase fun v' w' h2 h3 h4 => h v' w' h2 h3 h4 (below_grownBy hown h3 hbase)
end

set_option maxRecDepth 100000 in
set_option maxHeartbeats 4000000 in
theorem readHome_spec (s : ByteArray) (hs : s.size ≤ 2000000) (w : World) :
  Calls Tryz.prog 52 #[.string s] w fun e w' => HomePost w 66 s e w' ∧ Below w.heap.size w w' := by
 have Hhead := Lib.hid (head_at s)
 go_enter Tryz.func52, Tryz.ntmps52
 go_wp2_with fail
 have own0 := World.ownsRow_lit (e := 66) (size := 4) w #[] 0 (Nat.le_refl _) (by unfold maxLen; omega) rfl
 refine (l7Vars_any s 5 2 (by omega) (by omega) (by omega) (by omega) _).mono ?_
 rintro e w1 ⟨hb1, ⟨xs, p, v, ho, rfl, hown⟩ | ⟨v, ho, rfl⟩⟩
 ·obtain ⟨hlen, hbd, hq5, hqs⟩ := varsAt_bd _ _ _ _ _ ho
  have own1 := Lib.hid (own_below own0 hb1 (Nat.le_refl _))
  have B1 := belN (belA (bel0 w) (.cells #[] 66)) hb1
  clear own0 hb1
  rcases Hhead.out with ⟨x, y, q, hh1, hq5', hqs', hv, hh2⟩ | ⟨_, hv⟩
  rotate_left
  ·rw [hv] at ho; cases ho
  rw [hv] at ho
  injection ho with ho
  injection ho with hx hp
  subst hx hp
  obtain ⟨g, c, rfl, hgb, hc0, hc1⟩ := own_cel2 hown
  have hx := hbd x (by simp)
  have hy := hbd y (by simp)
  have hglt := World.block_lt_of_cell? _ _ hc0
  simp only at hglt
  have q0 : (0 : Int) ≤ q := by omega
  have Hh1 := Lib.hid hh1
  clear hown hlen hbd hq5 hqs hv Hhead hh1
  by_cases h12 : (12 : Int) < y
  ·have Hno := Lib.hid (homeP_no (s := s) (.inl (by
    rw [if_pos h12] at hh2
    have := itE_bad (hd2 s).2.1 (hd2 s).2.2 0 (by rw [hh2]; rfl) (hd2 s).1.toNat
    rw [Nat.zero_add] at this
    exact this)))
   clear hh2
   go_wp2_with fail
   refine bodyPost_ret (v := .tuple #[.int .i64 0, .slice (some ⟨w.heap.size, 0, none⟩) 0 0, .bool false]) (by simp [results, Tryz.results52, go_sem]) rfl ⟨home_no Hno.out rfl own1.out, B1⟩
  ·rw [if_neg h12] at hh2
   have Hd := Lib.hid (show hd3 s = itE (dropB s q) false y by unfold hd3; rw [hh2]; simp)
   have Hq := Lib.hid (show (hd1 s).1 = (x : Int) by rw [Hh1.out])
   clear hh2 Hh1
   have y12 : y ≤ 12 := by omega
   have own2 := Lib.hid (World.ownsRow_lit (e := 66) (size := 4) w1 #[] 0 (Nat.le_refl _) (by unfold maxLen; omega) rfl)
   go_wp2_with fail
   go_loopw [7, 8, 9] (fun a v i wr => ∃ (k : Nat) (l : List EntD) (p : Nat), k ≤ y ∧ i = .int .i64 k ∧ a = .int .i64 p ∧ p ≤ s.size ∧ Hid (itE (dropB s q) false k = (l, dropB s p, false)) ∧ wr.ownsRow w1.heap.size 66 4 v k (ES l) ∧ Below w1.heap.size w1 wr)
    (fun _ _ i _ => y - (intOf i).toNat)
   case atStart => exact ⟨0, [], q, by omega, rfl, rfl, hqs', rfl, own2.out, belA (bel0 w1) _⟩
   case round =>
    clear own2
    obtain ⟨k, l, p, hk, rfl, rfl, hps, hit, hown, hbel⟩ := hrel
    have Own := Lib.hid hown
    have cr0 := keep1 hbel hc0 (Nat.le_refl _)
    have cr1 := keep1 hbel hc1 (Nat.le_refl _)
    have hwz := hbel.size
    clear hown
    have hsm := itE_small (dropB s q) false k
    rw [hit.out] at hsm
    obtain ⟨_, hll, hzs0⟩ := hsm
    simp only at hll hzs0
    rw [dropB_size] at hzs0
    have k0 : (0 : Int) ≤ ↑k := by omega
    have Hbad := fun (h : (stE (dropB s p) false).2.2 = true) (hlt : k < y) => homeP_no (s := s) (.inl (by
     rw [Hd.out, show y = (k + 1) + (y - k - 1) by omega]
     refine itE_bad _ _ _ ?_ _
     rw [itE, hit.out]; exact h))
    by_cases hlt : k < y
    ·have k1 : (↑k : Int) < ↑y := by omega
     have Hbad2 := Lib.hid fun h => Hbad h hlt
     clear Hbad
     rcases num2_at s p hps with ⟨i1, d1, p1, p2, e1, e2, hpp, hp2, hv⟩ | ⟨hbad, hv⟩
     ·have Hn1 := Lib.hid (show stE (dropB s p) false = (⟨hashI (scP (dropB s p2) false).1, i1, (scP (dropB s p2) false).1, d1⟩, (scP (dropB s p2) false).2) by unfold stE; rw [e1]; simp only; rw [e2])
      clear e1 e2
      go_wp2_with fail
      refine (l7Vars_any s p 2 (by omega) (by omega) (by omega) (by omega) _).mono ?_
      rintro e w4 ⟨hb4, ⟨xs, p', v4, ho, rfl, hown4⟩ | ⟨v4, ho, rfl⟩⟩
      rotate_left
      ·rw [hv] at ho; cases ho
      rw [hv] at ho
      injection ho with ho
      injection ho with hx' hp'
      subst hx' hp'
      obtain ⟨g4, c4, rfl, hgb4, hc40, hc41⟩ := own_cel2 hown4
      have hltO := Lib.hid (fun g e => (Own.out.lt g e).2)
      have Own4 := Lib.hid (own_below Own.out hb4 (Nat.le_refl _))
      have B4 := hbel.trans (hb4.mono hwz)
      clear hown4 hv
      go_wp2_with fail
      refine (l7Take_any s p2 (by omega) (by omega) (by omega) _).mono ?_
      rintro e w5 ⟨hT, hb5⟩
      have hw45 := B4.size
      have Own5 := Lib.hid (own_below Own4.out hb5 (Nat.le_refl _))
      have B5 := B4.trans (hb5.mono hw45)
      have c50 := keep1 hb5 hc40 (Nat.le_refl _)
      have c51 := keep1 hb5 hc41 (Nat.le_refl _)
      clear Own4 Own hc40 hc41
      rcases piece_at s p2 hp2 with ⟨t1, p3, e3, hpp3, hp3, hta⟩ | ⟨hbad, hta⟩
      ·rcases hT with ⟨t', k', hk', rfl⟩ | ⟨hn, rfl⟩
       rotate_left
       ·rw [hta] at hn; cases hn
       rw [hta] at hk'
       injection hk' with hk'
       injection hk' with h6 h7
       subst h6 h7
       have Hst := Lib.hid (show itE (dropB s q) false (k + 1) = (l ++ [⟨hashI t1, i1, t1, d1⟩], dropB s p3, false) by
        rw [itE, hit.out]; simp only; rw [Hn1.out, e3])
       have zt : t1.size ≤ 2000000 := by
        have h8 := itE_small (dropB s q) false (k + 1)
        rw [Hst.out] at h8
        have := h8.2.2 ⟨hashI t1, i1, t1, d1⟩ (by simp)
        rw [dropB_size] at this
        simp only at this
        omega
       clear Hn1 Hbad2 e3 hta
       have hne4 := Lib.hid (show some g4 ≠ u8.ownBlock from fun e => absurd (hltO.out g4 e.symm) (by omega))
       go_wp2_with fail
       go_region_held3 (fun w' => w'.cell? ⟨g4, 0, none⟩ = some (.int .i64 i1) ∧ w'.cell? ⟨g4, 1, none⟩ = some (.int .i64 d1))
        (first | go_keep | (refine ⟨keep1 hb6 ?_, keep1 hb6 ?_⟩ <;> go_keep) | (refine ⟨hg7.cell (a := ⟨g4, 0, none⟩) ?_ hne4.out, hg7.cell (a := ⟨g4, 1, none⟩) ?_ hne4.out⟩ <;> go_keep))
        (first
         | (go_at_call 83; refine (hashOf_spec t1 zt _).mono ?_; rintro e w6 ⟨rfl, hb6⟩)
         | ((refine step_app _ (by rfl) _ _ _ (by rfl) Tryz.el_ent ((own_below (w := w5.drew) Own5.out hb6 (Nat.le_refl _)).alloc _) (by rfl) (reads_new _ _ _ 4 1 (by rfl)) (by rfl) (by simp [Value.oneCell']) (max_small (by omega)) (by omega) (by have h8 := hb6.size; have h9 := B5.size; simp at h8 ⊢; omega) ?_; intro v7 w7 own7 hg7 _ hb7)))
       go_wp2
       go_roundw
       case rel =>
        refine ⟨k + 1, l ++ [⟨hashI t1, i1, t1, d1⟩], p3, by omega, by go_num, rfl, hp3, Hst, ?_, ?_⟩
        ·rw [ES_append]; exact own7
        ·have C6 : Below w1.heap.size w1 w6 := B5.drew.trans (hb6.mono B5.size)
         exact (C6.alloc C6.size _).trans hb7
       case measure => simp [intOf]; omega
      ·rcases hT with ⟨t', k', hk', rfl⟩ | ⟨hn, rfl⟩
       ·rw [hta] at hk'; cases hk'
       have Hno := Lib.hid (Hbad2.out (by rw [Hn1.out]; exact hbad))
       have own15 := Lib.hid (own_below (own_below own1.out (hbel.trans (hb4.mono hwz)) (Nat.le_refl _)) hb5 (Nat.le_refl _))
       go_wp2_with fail
       refine bodyPost_ret (v := .tuple #[.int .i64 0, .slice (some ⟨w.heap.size, 0, none⟩) 0 0, .bool false]) (by simp [results, Tryz.results52, go_sem]) rfl ⟨home_no Hno.out rfl own15.out, belN B1 B5⟩
     ·have Hno := Lib.hid (Hbad2.out (by rw [scN_pair_bad hbad]))
      go_wp2_with fail
      refine (l7Vars_any s p 2 (by omega) (by omega) (by omega) (by omega) _).mono ?_
      rintro e w4 ⟨hb4, ⟨xs, p', v4, ho, rfl, hown4⟩ | ⟨v4, ho, rfl⟩⟩
      ·rw [hv] at ho; cases ho
      have B4 := hbel.trans (hb4.mono hwz)
      go_wp2_with fail
      refine (l7Take_any s (-1) (by omega) (by omega) (by omega) _).mono ?_
      rintro e w5 ⟨hT, hb5⟩
      have B5 := B4.trans (hb5.mono B4.size)
      rcases hT with ⟨t', k', hk', rfl⟩ | ⟨hn, rfl⟩
      ·rw [takeAt_neg] at hk'; cases hk'
      have own15 := Lib.hid (own_below (own_below own1.out (hbel.trans (hb4.mono hwz)) (Nat.le_refl _)) hb5 (Nat.le_refl _))
      go_wp2_with fail
      refine bodyPost_ret (v := .tuple #[.int .i64 0, .slice (some ⟨w.heap.size, 0, none⟩) 0 0, .bool false]) (by simp [results, Tryz.results52, go_sem]) rfl ⟨home_no Hno.out rfl own15.out, belN B1 B5⟩
    ·obtain rfl : k = y := by omega
     have hd3' := Lib.hid (show hd3 s = (l, dropB s p, false) by rw [Hd.out, hit.out])
     have h5 := hd3_pos (s := s) (by rw [hd3'.out])
     have hzs : ∀ e ∈ l, e.s.size ≤ 2000000 := fun e he => by have := hzs0 e he; omega
     have Hsh := fun W => showHome_spec0 (x : Int) u8 l hzs (by omega) W
     have own15 := Lib.hid (own_below own1.out hbel (Nat.le_refl _))
     by_cases hsame : showHomeB (x : Int) l = s
     ·have Hp := Lib.hid (show homeP s = (((x : Int), l), true) by
       have := homeP_yes (s := s) (by rw [hd3'.out]) (by omega) (by rw [hd3'.out, Hq.out]; exact hsame)
       rw [this, hd3'.out, Hq.out])
      have hq := seq_true hsame
      clear hsame Hbad
      go_wp2_with fail
      refine (Hsh _ (own_is Own.out hll)).mono ?_
      rintro e w4 ⟨rfl, hb4⟩
      have own4 := Lib.hid (own_below Own.out hb4 (Nat.le_refl _))
      have c40 := keep1 hb4 cr0 (Nat.le_refl _)
      clear cr0 cr1 hc0 hc1
      go_wp2_with fail
      refine bodyPost_ret (v := .tuple #[.int .i64 x, u8, .bool true]) (by simp [results, Tryz.results52, go_sem]) rfl ⟨home_yes Hp.out rfl hll (own_more own4.out (by have := B1.size; omega)), belN B1 (hbel.trans (hb4.mono hwz))⟩
     ·have Hno := Lib.hid (homeP_no (s := s) (.inr (.inr (by rw [hd3'.out, Hq.out]; exact hsame))))
      have hq := seq_false hsame
      clear hsame Hbad
      go_wp2_with fail
      refine (Hsh _ (own_is Own.out hll)).mono ?_
      rintro e w4 ⟨rfl, hb4⟩
      have own154 := Lib.hid (own_below own15.out hb4 (Nat.le_refl _))
      go_wp2_with fail
      refine bodyPost_ret (v := .tuple #[.int .i64 0, .slice (some ⟨w.heap.size, 0, none⟩) 0 0, .bool false]) (by simp [results, Tryz.results52, go_sem]) rfl ⟨home_no Hno.out rfl own154.out, belN B1 (hbel.trans (hb4.mono hwz))⟩
 ·have Hno := Lib.hid (homeP_no (s := s) (.inl (by
   rcases Hhead.out with ⟨x, y, q, hh1, hq5', hqs', hv, hh2⟩ | ⟨h, _⟩
   ·rw [hv] at ho; cases ho
   ·have := itE_bad (hd2 s).2.1 (hd2 s).2.2 0 h (hd2 s).1.toNat
    rw [Nat.zero_add] at this
    exact this)))
  have own1 := Lib.hid (own_below own0 hb1 (Nat.le_refl _))
  have B1 := belN (belA (bel0 w) (.cells #[] 66)) hb1
  clear own0 hb1 ho Hhead
  go_wp2_with fail
  refine bodyPost_ret (v := .tuple #[.int .i64 0, .slice (some ⟨w.heap.size, 0, none⟩) 0 0, .bool false]) (by simp [results, Tryz.results52, go_sem]) rfl ⟨home_no Hno.out rfl own1.out, B1⟩

end Go.Proofs.YtghgafbfpejinaaGreatDoor
