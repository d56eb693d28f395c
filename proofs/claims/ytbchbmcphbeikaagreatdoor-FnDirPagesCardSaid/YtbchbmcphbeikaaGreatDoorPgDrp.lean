/- An entry is taken out of pages: the program's PgDrop. -/
import Derived.Test.YtbchbmcphbeikaaGreatDoorPgAdd
import Derived.Test.YtbchbmcphbeikaaGreatDoorMnd
import Derived.Test.YtbchbmcphbeikaaGreatDoorPgIdx
namespace Go.Proofs.YtbchbmcphbeikaaGreatDoor
open Go Go.RowKit

def dropPg (ps : List (List EntD)) (k a : Nat) : List (List EntD) :=
  if ((ps.getD k []).take a ++ (ps.getD k []).drop (a + 1)).length = 0 then ps.take k ++ ps.drop (k + 1)
  else if ((ps.getD k []).take a ++ (ps.getD k []).drop (a + 1)).length = 1 ∧ 1 < ps.length then mendP (ps.set k ((ps.getD k []).take a ++ (ps.getD k []).drop (a + 1))) k
  else ps.set k ((ps.getD k []).take a ++ (ps.getD k []).drop (a + 1))
def DropP (ps : List (List EntD)) (x y : Int) (ps' : List (List EntD)) (b : Bool) : Prop :=
  (b = false ∧ ps' = ps ∧ ∀ l ∈ ps, ∀ e ∈ l, isAt x y e = false) ∨ (b = true ∧ ∃ k a, ∃ (hk : k < ps.length) (ha : a < ps[k].length), isAt x y ps[k][a] = true ∧ ps' = dropPg ps k a)
/-- What PgDrop leaves. -/
def DropPost (w : World) (ps : List (List EntD)) (x y : Int) (r : Ending) (w' : World) : Prop :=
  ∃ A m c ps' b, r = .returned (.tuple #[.slice A m c, .bool b]) ∧ DropP ps x y ps' b ∧ PgFr w' w.heap.size A m ps' ∧ Below w.heap.size w w'
theorem find_at {l : List EntD} {p : EntD → Bool} {a : Nat} (ha : a < l.length) (h : l.find? p = some l[a]) : p l[a] = true := List.find?_some h

set_option maxRecDepth 100000 in
set_option maxHeartbeats 16000000 in
theorem pgDrop_impl (A : Option Addr) (n c : Nat) (ps : List (List EntD)) (x y : Int) (hok : okPB ps = true) (w : World) (hr : PagesAt w w.heap.size A n ps) :
    Calls Tryz.prog 35 #[.slice A n c, .int .i64 x, .int .i64 y] w fun r w' => DropPost w ps x y r w' := by
  have hl := hr.len
  obtain ⟨h8, hz4, hz⟩ := ok_small hok
  have Hp := Lib.hid (fun W (hb : Below w.heap.size w W) => (hr.below hb).more hb.size)
  clear hr
  obtain ⟨W1, hW1⟩ : ∃ W, (w.alloc (.cells #[.int .i64 x] 3)).alloc (.cells #[.int .i64 y] 3) = W := ⟨_, rfl⟩
  have OX : Blk W1 w.heap.size 3 #[.int .i64 x] := by rw [← hW1]; exact (Blk.new' _ _ _ _ rfl).alloc _
  have OY : Blk W1 (w.heap.size + 1) 3 #[.int .i64 y] := by rw [← hW1]; exact Blk.new' _ _ _ _ (by simp)
  have B1 : Below w.heap.size w W1 := by rw [← hW1]; exact belA (belA (bel0 _) _) _
  have HW1 := Lib.hid hW1
  clear hW1
  go_enter Tryz.func35, Tryz.ntmps35
  go_wp2_with fail
  rw [HW1.out]
  refine (pagesOk_impl A n c ps hz (by omega) W1 (Hp.out _ B1)).mono ?_
  rintro r w2 ⟨rfl, hb2⟩
  rw [hok]
  have B2 := belN B1 hb2
  have OX2 := OX.below hb2 OX.lt
  have OY2 := OY.below hb2 OY.lt
  clear B1 OX OY hb2
  go_wp2_with fail
  refine (copyPages_impl A n c ps (by omega) (fun l hl => by have := hz4 l hl; omega) w2 (Hp.out _ B2)).mono ?_
  rintro r w5 ⟨v, L, rfl, hcon, hfull, hO, hown, hb5⟩
  have B5 := belN B2 hb5
  have OX5 := OX2.below hb5 OX2.lt
  have OY5 := OY2.below hb5 OY2.lt
  have lx2 := OX2.lt
  have hLl : L.length = ps.length := by rw [← hcon, List.length_map]
  have hN : L.length = n := hLl.trans hl
  obtain ⟨A5, c5, rfl, hpg5⟩ := pages_of hO hown
  rw [hcon] at hpg5
  rw [hN] at hown hpg5 ⊢
  have HO := Lib.hid hO
  have Own := Lib.hid hown
  have HPG := Lib.hid hpg5
  clear hown hO hb5 hpg5 OX2 OY2
  go_wp2
  go_loopw [19] (fun i wr => ∃ j : Nat, i = .int .i64 j ∧ j ≤ n ∧ Hid (∀ (i : Nat) (h : i < ps.length), i < j → ∀ e ∈ ps[i], isAt x y e = false) ∧ Below w5.heap.size w5 wr) (fun i _ => n - (intOf i).toNat)
  case atStart => exact ⟨0, rfl, by omega, fun i h hi => by omega, bel0 _⟩
  case round =>
    obtain ⟨j, rfl, hjn, Hno, hbel⟩ := hrel
    by_cases hlt : j < n
    · obtain ⟨g0, c0, hv0⟩ := own_form1 Own.out (by omega)
      simp only [Value.slice.injEq, true_and] at hv0
      obtain ⟨rfl, rfl⟩ := hv0
      have q0 : (0 : Int) ≤ (j : Int) := by omega
      have q1 : (j : Int) < (n : Int) := by omega
      have hjL : j < L.length := by omega
      have hjp : j < ps.length := by omega
      obtain ⟨hv, hLx, hLn, hLk, ho⟩ := pg_at (HO.out.bl hbel) hcon hfull hjp hjL
      have Y0 := Lib.hid (own_below Own.out hbel (Nat.le_refl _))
      have y0 := Y0.out.cellAt j (by omega)
      rw [PV_get L j hjL, hv] at y0
      have hzl := hz4 _ (List.getElem_mem hjp)
      have hgl : ps.getD j [] = ps[j] := by simp [List.getD, hjp]
      have Hnj := Lib.hid (show ∀ r : Int, IdxPg ps[j] (isAt x y) r → (r = -1 ∧ ∀ e ∈ ps[j], isAt x y e = false) ∨ ∃ a, ∃ ha : a < ps[j].length, r = (a : Int) ∧ isAt x y ps[j][a] = true from fun r h => by
        rcases h with ⟨h1, h2⟩ | ⟨a, ha, h1, h2⟩
        · exact .inl ⟨h1, fun e he => by have := List.find?_eq_none.1 h2 e he; simpa using this⟩
        · exact .inr ⟨a, ha, h1, find_at ha h2⟩)
      obtain ⟨l, hll⟩ : ∃ l, ps[j] = l := ⟨_, rfl⟩
      rw [hll] at ho y0 hzl hgl hLx hLn Hnj
      obtain ⟨gk, hgk⟩ : ∃ g, L[j].g = g := ⟨_, rfl⟩
      obtain ⟨ck, hck⟩ : ∃ g, L[j].c = g := ⟨_, rfl⟩
      rw [hgk, hck] at ho y0
      have Hv := Lib.hid (show L[j].val = .slice (some ⟨gk, 0, none⟩) l.length ck by rw [hv, hgk, hck, hll])
      have Ho := Lib.hid ho
      have Hgl := Lib.hid hgl
      have Hll := Lib.hid hll
      have Hgk := Lib.hid hgk
      have HOj := Lib.hid (HO.out.bl hbel)
      have B6 := belN B5 hbel
      have OX6 := OX5.below hbel OX5.lt
      have OY6 := OY5.below hbel OY5.lt
      have fx := Lib.hid OX6
      have fy := Lib.hid OY6
      clear hv hll hgk hck ho hLx hLn hLk hgl
      go_wp2_with fail
      refine (indexFunc_pgDrop (isAt x y) (.pointer (some ⟨w.heap.size, 0, none⟩)) (.pointer (some ⟨w.heap.size + 1, 0, none⟩)) (some ⟨gk, 0, none⟩) l.length ck l (by omega) wr (Reads.of_own Ho.out) (fun W hb e _ => pgDrop_clo w.heap.size (w.heap.size + 1) x y e.h e.i e.s e.d W ((fx.out.below hb fx.out.lt).get (x := .int .i64 x) 0 rfl) ((fy.out.below hb fy.out.lt).get (x := .int .i64 y) 0 rfl))).mono ?_
      rintro r w8 ⟨r, rfl, hidx, hb8⟩
      rcases Hnj.out r hidx with ⟨rfl, hno⟩ | ⟨a, ha, rfl, hat⟩
      · have Hno2 := Lib.hid (show ∀ (i : Nat) (h : i < ps.length), i < j + 1 → ∀ e ∈ ps[i], isAt x y e = false from fun i h hi => by
          by_cases e : i = j
          · subst e; rw [Hll.out]; exact hno
          · exact Hno.out i h (by omega))
        have hb9 : Below w5.heap.size w5 w8 := belN hbel hb8
        clear hno hidx
        go_wp2
        first
          | exact ⟨⟨j + 1, by go_num, by omega, Hno2.out, hb9⟩, by simp [intOf]; omega⟩
          | (go_roundw; case rel => exact ⟨j + 1, by go_num, by omega, Hno2.out, hb9⟩; case measure => (simp [intOf]; omega))
      · have Y8 := Lib.hid (own_below Y0.out hb8 (Nat.le_refl _))
        have HO8 := Lib.hid (HOj.out.bl hb8)
        have Ho8 := Lib.hid (own_below Ho.out hb8 (Nat.le_refl _))
        have B8 := Lib.hid (belN B6 hb8)
        have ne1 : (some g0 : Option Nat) ≠ some gk := by
          have := pg_ne Y8.out (HO8.out.1 _ (List.getElem_mem hjL))
          rw [Hgk.out] at this
          exact fun e => this (by injection e with e; exact e.symm)
        have lg0 : w2.heap.size ≤ g0 := (own_some Y8.out).1
        have wa : IntKind.i64.wrap ((a : Int) + 1) = (a : Int) + 1 := by rw [IntKind.wrap_i64]; omega
        have wj : IntKind.i64.wrap ((j : Int) + 1) = (j : Int) + 1 := by rw [IntKind.wrap_i64]; omega
        have a0 : ¬ ((a : Int) < 0) := by omega
        have l2 : w2.heap.size ≤ w8.heap.size := by have := (Y8.out.lt g0 rfl).2; omega
        have Hdrop := Lib.hid (show ∀ ps', ps' = dropPg ps j a → DropP ps x y ps' true from fun ps' h => .inr ⟨rfl, j, a, hjp, by rw [Hll.out]; exact ha, by simp only [Hll.out]; exact hat, h⟩)
        clear hidx hb8 y0 Y0 Ho HOj B6 OX6 OY6 hat Hno Hnj
        go_wp2_with fail
        refine (delG_any w2.heap.size l.length a gk ck l w8 (by omega) ha rfl l2 Ho8.out).mono ?_
        rintro r w9 ⟨rfl, own9, hB9, hG9⟩
        have Y9 := Lib.hid (Y8.out.kept hG9 (.inr ne1))
        obtain ⟨u9, y9⟩ := own_cell1 Y9.out j (by omega)
        have f9 := own_frozen Y9.out j
        obtain ⟨l', hl'⟩ : ∃ l', l.take a ++ l.drop (a + 1) = l' := ⟨_, rfl⟩
        have hlen' : l'.length = l.length - 1 := by rw [← hl', List.length_append, List.length_take, List.length_drop]; omega
        obtain ⟨q, hq⟩ : ∃ q : PgD, q = ⟨gk, ck, l', l.length - 1, ck⟩ := ⟨_, rfl⟩
        have hqv : q.val = .slice (some ⟨gk, 0, none⟩) (l.length - 1) ck := by rw [hq]; rfl
        have hqf : full q := by rw [hq]; exact ⟨hlen'.symm, rfl⟩
        have hqc : q.con = l' := by rw [full_con hqf, hq]
        have hqx : q.xs = l' := by rw [hq]
        have hqd : OwnD w9 w2.heap.size q := by
          rw [hq]
          refine ⟨?_, by simp only; omega⟩
          rw [hl'] at own9
          simp only [hlen']
          exact own9
        have HP9 := Lib.hid (HO8.out.set hjL (by rw [Hgk.out]; exact hG9) hqd (.inl (by rw [hq, Hgk.out])))
        have HP10 := Lib.hid (HP9.out.app Y9.out (show w9.grownBy (w9.setCell ⟨g0, j, none⟩ (.slice (some ⟨gk, 0, none⟩) (l.length - 1) ck)) (some g0) from only_sc (grown_refl _ _) j _))
        have yy := own_set Y9.out j q.val
        rw [PV_set, hqv] at yy
        have Y10 := Lib.hid yy
        have lw2 : w.heap.size ≤ w2.heap.size := Nat.le_of_lt lx2
        have B10 := Lib.hid (belC (B8.out.trans (hB9.mono lw2)) g0 j (Nat.le_trans lw2 lg0) (.slice (some ⟨gk, 0, none⟩) (l.length - 1) ck))
        have Hqf := Lib.hid (show ∀ p ∈ L.set j q, full p ∧ p.xs.length ≤ 4 ∧ (l'.length ≠ 0 → 0 < p.xs.length) from fun p hp => by
          rcases List.mem_or_eq_of_mem_set hp with hp | rfl
          · have h1 := hfull p hp
            obtain ⟨i, hi, rfl⟩ := List.mem_iff_getElem.1 hp
            have h2 := hz4 _ (List.getElem_mem (show i < ps.length by omega))
            have h3 : L[i].xs = ps[i]'(by omega) := (pg_at HO.out hcon hfull (show i < ps.length by omega) hi).2.1
            rw [h3]
            exact ⟨h1, h2.2, fun _ => by omega⟩
          · rw [hqx]
            exact ⟨hqf, by omega, fun h => by omega⟩)
        have hsl : (L.set j q).length = n := by rw [List.length_set]; exact hN
        have hcn : (L.set j q).map PgD.con = ps.set j l' := by rw [List.map_set, hcon, hqc]
        have Hdp := Lib.hid (show dropPg ps j a = if l'.length = 0 then ps.take j ++ ps.drop (j + 1) else if l'.length = 1 ∧ 1 < ps.length then mendP (ps.set j l') j else ps.set j l' by unfold dropPg; rw [Hgl.out, hl'])
        clear yy own9 hG9 hB9 HP9 Y9 hqd Ho8 HO8 Y8 B8 hl'
        go_upto_region 10 with fail
        generalize (w9.setCell ⟨g0, j, none⟩ (.slice (some ⟨gk, 0, none⟩) (l.length - 1) ck)) = w10 at B10 HP10 Y10 ⊢
        have y10 := Y10.out.cellAt j (by omega)
        rw [PV_get _ j (by omega), List.getElem_set_self, hqv] at y10
        have l10 : w2.heap.size ≤ w10.heap.size := by have := (Y10.out.lt g0 rfl).2; omega
        obtain ⟨m, hm⟩ : ∃ m, l.length - 1 = m := ⟨_, rfl⟩
        rw [hm] at hlen' hqv y10 ⊢
        have Hm := Lib.hid hm
        clear hq hqv hqf hqc hqx y9 f9 hm a0 wa
        by_cases m0 : m = 0
        · subst m0
          have HA := Hdrop.out _ Hdp.out.symm
          rw [if_pos hlen'] at HA
          clear hlen'
          go_wp2_with fail
          refine (delP_any w2.heap.size n j g0 c5 (L.set j q) w10 (by omega) hlt hsl l10 Y10.out).mono ?_
          rintro r w14 ⟨rfl, own14, hB14, hG14⟩
          have HP14 := Lib.hid ((HP10.out.app Y10.out hG14).sub (M := (L.set j q).take j ++ (L.set j q).drop (j + 1)) (by
            have h := (List.Sublist.refl ((L.set j q).take j)).append (show ((L.set j q).drop (j + 1)).Sublist ((L.set j q).drop j) by rw [← List.drop_drop]; exact List.drop_sublist _ _)
            rwa [List.take_append_drop] at h))
          have hml : ((L.set j q).take j ++ (L.set j q).drop (j + 1)).length = n - 1 := by rw [List.length_append, List.length_take, List.length_drop, hsl]; omega
          have hpg := HP14.out.pages (g := g0) (c := c5) (by rw [hml]; exact own14)
          rw [hml, List.map_append, List.map_take, List.map_drop, hcn, List.take_set_of_le (Nat.le_refl _), List.drop_set_of_lt (show j < j + 1 by omega)] at hpg
          have HPG2 := Lib.hid hpg
          have HA2 := Lib.hid HA
          have B14 := Lib.hid (B10.out.trans (hB14.mono lw2))
          clear hpg own14 HA
          go_wp2
          refine bodyPost_ret (v := .tuple #[.slice (some ⟨g0, 0, none⟩) (n - 1) c5, .bool true]) (by simp [results, Tryz.results35, go_sem]) rfl ⟨_, n - 1, c5, _, true, rfl, HA2.out, HPG2.out.mono lw2, B14.out⟩
        · by_cases m1 : m = 1 ∧ 1 < n
          · obtain ⟨rfl, n1⟩ := m1
            have HA := Hdrop.out _ Hdp.out.symm
            rw [if_neg (by omega), if_pos ⟨hlen', by omega⟩] at HA
            have HA2 := Lib.hid HA
            have q7 : (n : Int) > 1 := by omega
            have hfq : ∀ p ∈ L.set j q, full p := fun p hp => (Hqf.out p hp).1
            have hlq : ∀ p ∈ L.set j q, p.xs.length ≤ 4 := fun p hp => (Hqf.out p hp).2.1
            have hnq : ∀ p ∈ L.set j q, 0 < p.xs.length := fun p hp => (Hqf.out p hp).2.2 (by omega)
            have HM := Lib.hid (mended_any w2.heap.size g0 n c5 j (L.set j q) w10 hsl (by omega) hlt n1 hfq hlq hnq HP10.out Y10.out)
            rw [hcn] at HM
            clear HA hlen' hfq hlq hnq
            go_wp2_with fail
            refine HM.out.mono ?_
            rintro r w14 ⟨A14, m14, c14, rfl, hpg, hB14⟩
            have HPG2 := Lib.hid hpg
            have B14 := Lib.hid (B10.out.trans (hB14.mono lw2))
            clear hpg
            go_wp2
            refine bodyPost_ret (v := .tuple #[.slice A14 m14 c14, .bool true]) (by simp [results, Tryz.results35, go_sem]) rfl ⟨_, m14, c14, _, true, rfl, HA2.out, HPG2.out.mono lw2, B14.out⟩
          · have HA := Hdrop.out _ Hdp.out.symm
            rw [if_neg (by omega), if_neg (by rw [hlen', hl]; exact m1)] at HA
            have HA2 := Lib.hid HA
            have hpg := HP10.out.pages (g := g0) (c := c5) (by rw [hsl]; exact Y10.out)
            rw [hsl, hcn] at hpg
            have HPG2 := Lib.hid hpg
            clear HA hlen' hpg
            have m0b : ((m : Int) == 0) = false := by simp; omega
            by_cases m2 : m = 1
            · subst m2
              have n1 : ¬ ((n : Int) > 1) := by omega
              have n2 : ¬ (1 < n) := by omega
              clear m1
              go_wp2
              refine bodyPost_ret (v := .tuple #[.slice (some ⟨g0, 0, none⟩) n c5, .bool true]) (by simp [results, Tryz.results35, go_sem]) rfl ⟨_, n, c5, _, true, rfl, HA2.out, HPG2.out.mono lw2, B10.out⟩
            · have m1b : ((m : Int) == 1) = false := by simp; omega
              clear m1
              go_wp2
              refine bodyPost_ret (v := .tuple #[.slice (some ⟨g0, 0, none⟩) n c5, .bool true]) (by simp [results, Tryz.results35, go_sem]) rfl ⟨_, n, c5, _, true, rfl, HA2.out, HPG2.out.mono lw2, B10.out⟩
    · have q1 : ¬ ((j : Int) < (n : Int)) := by omega
      have HA := Lib.hid (show DropP ps x y ps false from .inl ⟨rfl, rfl, fun l hl => by
        obtain ⟨i, hi, rfl⟩ := List.mem_iff_getElem.1 hl
        exact Hno.out i hi (by omega)⟩)
      have HPG2 := Lib.hid (HPG.out.bl hbel)
      have B6 := Lib.hid (belN B5 hbel)
      go_wp2
      refine bodyPost_ret (v := .tuple #[.slice A5 n c5, .bool false]) (by simp [results, Tryz.results35, go_sem]) rfl ⟨_, n, c5, ps, false, rfl, HA.out, HPG2.out.mono (Nat.le_of_lt lx2), B6.out⟩

end Go.Proofs.YtbchbmcphbeikaaGreatDoor
