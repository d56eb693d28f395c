/- Extents that are right: the walks of both sides. -/
import Derived.Test.YtajgenjfhcapjaaFwExtP
import Derived.Test.YtajgenjfhcapjaaFwMrk
import Derived.BigQuiet
namespace Go.Proofs.Ytajgenjfhcapjaa
open Go Go.RowKit

set_option maxHeartbeats 1000000 in
theorem isPart_any (a n s : Int) (hs : s = 12 ∨ s = 24) (w : World) :
    Calls Try.prog 69 #[.int .i64 a, .int .i64 n, .int .i64 s] w fun e w' => e = .returned (.bool (partB a n s)) ∧ w = w' := by
  have ws : IntKind.i64.wrap (s - 1) = s - 1 := by rw [IntKind.wrap_i64]; omega
  cases h : inI a 0 (s - 1)
  · have Hf := Lib.hid (show partB a n s = false by unfold partB; rw [h]; rfl)
    clear hs
    go_enter Try.func69, Try.ntmps69
    go_wp2_with fail
    refine (within_any _ _ _ _).mono ?_
    rintro e w' ⟨rfl, rfl⟩
    rw [h]
    go_wp2
    go_ret
    exact ⟨by rw [Hf.out]; rfl, rfl⟩
  · have Hf := Lib.hid (show partB a n s = inI n 1 (s - a) by unfold partB; rw [h]; rfl)
    have h2 := inI_true.1 h
    have wa : IntKind.i64.wrap (s - a) = s - a := by rw [IntKind.wrap_i64]; omega
    clear hs h2
    go_enter Try.func69, Try.ntmps69
    go_wp2_with fail
    refine (within_any _ _ _ _).mono ?_
    rintro e w' ⟨rfl, rfl⟩
    rw [h]
    go_wp2_with fail
    refine (within_any _ _ _ _).mono ?_
    rintro e w' ⟨rfl, rfl⟩
    go_wp2
    go_ret
    exact ⟨by rw [Hf.out]; rfl, rfl⟩

/-- Bits as an array's cells. -/
def bitsA (u : List Bool) : Array Value := (BS u).toArray
theorem Blk.bit {w : World} {g : Nat} {t : TypeId} {u : List Bool} (h : Blk w g t (bitsA u)) {k : Nat} (hk : k < u.length) : w.cell? ⟨g, k, none⟩ = some (.bool u[k]) :=
  h.get k (by unfold bitsA; rw [List.getElem?_toArray, BS_get _ _ hk])
theorem BS_set (u : List Bool) (k : Nat) (b : Bool) : (BS u).set k (.bool b) = BS (u.set k b) := by unfold BS; rw [List.map_set]
theorem Blk.bset {w : World} {g : Nat} {t : TypeId} {u : List Bool} (h : Blk w g t (bitsA u)) (k : Nat) (b : Bool) : Blk (w.setCell ⟨g, k, none⟩ (.bool b)) g t (bitsA (u.set k b)) :=
  h.put k _ _ (by unfold bitsA; rw [← BS_set, List.setIfInBounds_toArray])
theorem gapB_yes1 {pa pb pl ea eb el : Nat} (h : ea < pa + pl) : gapB ⟨pa, pb, pl⟩ ⟨ea, eb, el⟩ = true := by unfold gapB; simp; omega
theorem gapB_yes2 {pa pb pl ea eb el : Nat} (h : ea = pa + pl) (h2 : eb = pb + pl) : gapB ⟨pa, pb, pl⟩ ⟨ea, eb, el⟩ = true := by unfold gapB; simp; omega
theorem gapB_no1 {pa pb pl ea eb el : Nat} (h : ¬ ea < pa + pl) (h2 : ¬ ea = pa + pl) : gapB ⟨pa, pb, pl⟩ ⟨ea, eb, el⟩ = false := by unfold gapB; simp; omega
theorem gapB_no2 {pa pb pl ea eb el : Nat} (h : ¬ ea < pa + pl) (h2 : ¬ eb = pb + pl) : gapB ⟨pa, pb, pl⟩ ⟨ea, eb, el⟩ = false := by unfold gapB; simp; omega

set_option maxRecDepth 100000 in
set_option maxHeartbeats 8000000 in
theorem extsOk_impl (A : Option Addr) (n c : Nat) (xs : List ExtD) (hn : n ≤ 10000000) (w : World) (hr : Reads w w.heap.size 3 A n (XS xs)) :
    Calls Try.prog 60 #[.slice A n c] w fun e w' => e = .returned (.bool (extsOkB xs)) ∧ Below w.heap.size w w' := by
  have hl : xs.length = n := by have := hr.1; rw [XS_length] at this; omega
  have Hl := Lib.hid hl
  have Hr := Lib.hid hr
  clear hr hl
  have U0 := Lib.hid (show Blk (w.alloc (.cells (bitsA (List.replicate 24 false)) 82)) w.heap.size 82 (bitsA (List.replicate 24 false)) from Blk.new' _ _ _ _ rfl)
  go_enter Try.func60, Try.ntmps60
  go_wp2
  go_loopw [11] (fun i wr => ∃ (j : Nat) (u : List Bool), i = .int .i64 j ∧ j ≤ n ∧ Hid (ExI xs j u) ∧ Hid (Blk wr w.heap.size 82 (bitsA u)) ∧ Below w.heap.size w wr) (fun i _ => n - (intOf i).toNat)
  case atStart => exact ⟨0, List.replicate 24 false, rfl, by omega, ExI.zero xs, U0.out, belA (bel0 w) _⟩
  case round =>
    clear U0
    obtain ⟨j, u, rfl, hj, HI, U, hbel⟩ := hrel
    by_cases hlt : j < n
    · obtain ⟨hkx, b, o, rfl, hadb, z0, z1, z2⟩ := reads_ext (Hr.out.below hbel) hlt
      have q0 : (0 : Int) ≤ ↑j := by omega
      have q1 : (↑j : Int) < ↑n := by omega
      have ulen := Lib.hid HI.out.len
      obtain ⟨ej, hej⟩ : ∃ e, xs[j] = e := ⟨_, rfl⟩
      rw [hej] at z0 z1 z2
      have Hej := Lib.hid hej
      clear hej
      cases hok : extOk1 ej
      · have HF := Lib.hid (HI.out.bad1 hkx (by rw [Hej.out]; exact hok))
        cases hp1 : partB ej.a ej.l 12
        · clear hok
          go_wp2_with fail
          refine (isPart_any _ _ _ (.inl rfl) _).mono ?_
          rintro e w' ⟨rfl, rfl⟩
          rw [hp1]
          go_wp2
          go_ret
          exact ⟨by rw [HF.out]; rfl, belA hbel _⟩
        · have hp2 : partB ej.b ej.l 24 = false := by unfold extOk1 at hok; rw [hp1] at hok; simpa using hok
          clear hok
          go_wp2_with fail
          refine (isPart_any _ _ _ (.inl rfl) _).mono ?_
          rintro e w' ⟨rfl, rfl⟩
          rw [hp1]
          go_wp2_with fail
          refine (isPart_any _ _ _ (.inr rfl) _).mono ?_
          rintro e w' ⟨rfl, rfl⟩
          rw [hp2]
          go_wp2
          go_ret
          exact ⟨by rw [HF.out]; rfl, belA hbel _⟩
      · have HOK := Lib.hid hok
        obtain ⟨ea, eb, el, rfl, n1, n2, n3⟩ := extOk1_nat hok
        simp only at z0 z1 z2
        have hp1 : partB ea el 12 = true := by unfold extOk1 at hok; simp only [Bool.and_eq_true] at hok; exact hok.1
        have hp2 : partB eb el 24 = true := by unfold extOk1 at hok; simp only [Bool.and_eq_true] at hok; exact hok.2
        clear hok
        obtain ⟨wa, hwa⟩ : ∃ W, wr.alloc (.cells #[.int .i64 ea, .int .i64 eb, .int .i64 el] 76) = W := ⟨_, rfl⟩
        obtain ⟨gx, hgx⟩ : ∃ g, wr.heap.size = g := ⟨_, rfl⟩
        have X : Blk wa gx 76 #[.int .i64 ea, .int .i64 eb, .int .i64 el] := by rw [← hwa, ← hgx]; exact Blk.new' _ _ _ _ rfl
        have BA : Below w.heap.size w wa := by rw [← hwa]; exact belA hbel _
        have UA := Lib.hid (show Blk wa w.heap.size 82 (bitsA u) by rw [← hwa]; exact U.out.alloc _)
        have USED := Lib.hid (fun (h : useL u eb el = none) => HI.out.used hkx (by rw [Hej.out]; simpa using h))
        have x0 := X.get (x := .int .i64 ea) 0 rfl
        have x1 := X.get (x := .int .i64 eb) 1 rfl
        have x2 := X.get (x := .int .i64 el) 2 rfl
        have lX := X.lt
        go_wp2_with fail
        refine (isPart_any _ _ _ (.inl rfl) _).mono ?_
        rintro e w' ⟨rfl, rfl⟩
        rw [hp1]
        clear hwa hgx
        go_wp2_with fail
        refine (isPart_any _ _ _ (.inr rfl) _).mono ?_
        rintro e w' ⟨rfl, rfl⟩
        rw [hp2]
        clear hp1 hp2 x0 x1 x2 lX
        clear z0 z1 z2
        rcases Nat.eq_zero_or_pos j with h0 | h0
        · have j0 : ¬ (0 : Int) < ↑j := by omega
          have NEXT := Lib.hid (fun u' (h : useL u eb el = some u') => HI.out.nextO hkx (by rw [Hej.out]; exact HOK.out) (by unfold prevE; rw [if_pos h0]; rfl) (by rw [Hej.out]; simpa using h))
          have U := UA
          have BB := BA
          clear UA BA HI HOK Hej hbel h0
          have x1 := X.get (x := .int .i64 eb) 1 rfl
          have x2 := X.get (x := .int .i64 el) 2 rfl
          have lX := X.lt
          go_wp2_with fail
          clear x1 x2
          go_loopw [8] (fun t wr2 => ∃ (k : Nat) (u2 : List Bool), t = .int .i64 k ∧ eb ≤ k ∧ k ≤ eb + el ∧ Hid (useL u2 k (eb + el - k) = useL u eb el) ∧ Hid (u2.length = 24) ∧ Hid (Blk wr2 w.heap.size 82 (bitsA u2)) ∧ Hid (Blk wr2 gx 76 #[.int .i64 ea, .int .i64 eb, .int .i64 el]) ∧ Below w.heap.size w wr2) (fun t _ => 24 - (intOf t).toNat)
          case atStart => exact ⟨eb, u, rfl, by omega, by omega, by rw [show eb + el - eb = el by omega]; rfl, ulen.out, U.out, X, BB⟩
          case round =>
            clear X U BB lX
            obtain ⟨k, u2, rfl, hk1, hk2, hu, ul2, U2, X2, B2⟩ := hrel
            have x1 := X2.out.get (x := .int .i64 eb) 1 rfl
            have x2 := X2.out.get (x := .int .i64 el) 2 rfl
            have lX := X2.out.lt
            have lw := B2.size
            have ul := ul2.out
            by_cases hkl : k < eb + el
            · have kk : k < 24 := by omega
              have q3 : (↑k : Int) < ↑eb + ↑el := by omega
              have q4 : (0 : Int) ≤ ↑k := by omega
              have q5 : (↑k : Int) < 24 := by omega
              have ck : wr.cell? ⟨w.heap.size, k, none⟩ = some (.bool (u2[k]'(by omega))) := U2.out.bit (k := k) (by omega)
              have fk := U2.out.frozen k
              have hne : gx ≠ w.heap.size := Blk.ne_ X2.out U2.out (by decide)
              have hgd : u2.getD k false = u2[k] := by rw [List.getD_eq_getElem?_getD, List.getElem?_eq_getElem (show k < u2.length by omega)]; rfl
              have hsp : eb + el - k = (eb + el - (k + 1)) + 1 := by omega
              have HM := Lib.hid (fun (h : u2.getD k false = false) => show useL (u2.set k true) (k + 1) (eb + el - (k + 1)) = useL u eb el by rw [← hu.out, hsp, useL_miss h])
              have HH := Lib.hid (fun (h : u2.getD k false = true) => show useL u eb el = none by rw [← hu.out, hsp, useL_hit h])
              have UN := Lib.hid (U2.out.bset k true)
              have XN := Lib.hid (X2.out.far (p := ⟨w.heap.size, k, none⟩) hne (.bool true))
              clear hsp
              cases hb : u2[k]
              · rw [hb] at ck hgd
                have HM2 := Lib.hid (HM.out hgd)
                clear hb hgd ul HM HH
                go_wp2
                go_roundw
                case rel => exact ⟨k + 1, u2.set k true, by go_num, by omega, by omega, HM2.out, by have := ul2.out; show _ = _; rw [List.length_set]; exact this, UN.out, XN.out, belC B2 _ _ (Nat.le_refl _) _⟩
                case measure => simp [intOf]; omega
              · rw [hb] at ck hgd
                have HH2 := Lib.hid (USED.out (HH.out hgd))
                clear hb hgd ul HM HH
                go_wp2
                go_ret
                exact ⟨by rw [HH2.out]; rfl, B2⟩
            · have q3 : ¬ (↑k : Int) < ↑eb + ↑el := by omega
              have HN := Lib.hid (NEXT.out u2 (by rw [← hu.out, show eb + el - k = 0 by omega]; rfl))
              clear ul
              go_wp2
              first
                | exact ⟨⟨j + 1, u2, by go_num, by omega, HN.out, U2.out, B2⟩, by simp [intOf]; omega⟩
                | (go_roundw; case rel => exact ⟨j + 1, u2, by go_num, by omega, HN.out, U2.out, B2⟩; case measure => (simp [intOf]; omega))
        · obtain ⟨p, hp⟩ : ∃ p, j = p + 1 := ⟨j - 1, by omega⟩
          obtain ⟨hkp, b', o', hbo, _, y0, y1, y2⟩ := reads_ext (Hr.out.below BA) (show p < n by omega)
          simp only [Option.some.injEq, Addr.mk.injEq, and_true] at hbo
          obtain ⟨rfl, rfl⟩ := hbo
          obtain ⟨pa, pb, pl, hpe, m1, m2, m3⟩ := extOk1_nat (HI.out.prevOf hp hkp)
          rw [hpe] at y0 y1 y2
          simp only at y0 y1 y2
          have Hpe := Lib.hid hpe
          have Hp := Lib.hid hp
          have j0 : (0 : Int) < ↑j := by omega
          have wJ : IntKind.i64.wrap ((j : Int) - 1) = (p : Int) := by rw [IntKind.wrap_i64]; omega
          have p0 : (0 : Int) ≤ (p : Int) := by omega
          have p1 : (p : Int) < (n : Int) := by omega
          have HX := Lib.hid (show gapB ⟨pa, pb, pl⟩ ⟨ea, eb, el⟩ = true → extsOkB xs = false from fun h => HI.out.badO hkx (by rw [prevE_of xs Hp.out hkp, Hpe.out, Hej.out]; exact h))
          have NEXT0 := Lib.hid (fun u' (hg : gapB ⟨pa, pb, pl⟩ ⟨ea, eb, el⟩ = false) (h : useL u eb el = some u') => HI.out.nextO hkx (by rw [Hej.out]; exact HOK.out) (by rw [prevE_of xs Hp.out hkp, Hpe.out, Hej.out]; exact hg) (by rw [Hej.out]; simpa using h))
          clear hpe hp HI HOK Hej Hpe h0 hkx hkp hbel
          obtain ⟨wb, hwb⟩ : ∃ W, wa.alloc (.cells #[.int .i64 pa, .int .i64 pb, .int .i64 pl] 76) = W := ⟨_, rfl⟩
          obtain ⟨gp, hgp⟩ : ∃ g, wa.heap.size = g := ⟨_, rfl⟩
          have PP : Blk wb gp 76 #[.int .i64 pa, .int .i64 pb, .int .i64 pl] := by rw [← hwb, ← hgp]; exact Blk.new' _ _ _ _ rfl
          have BB : Below w.heap.size w wb := by rw [← hwb]; exact belA BA _
          have UB := Lib.hid (show Blk wb w.heap.size 82 (bitsA u) by rw [← hwb]; exact UA.out.alloc _)
          have XB : Blk wb gx 76 #[.int .i64 ea, .int .i64 eb, .int .i64 el] := by rw [← hwb]; exact X.alloc _
          clear UA
          go_upto_region 9 with fail
          try rw [hwb, hgp]
          clear hwb hgp y0 y1 y2 wJ p0 p1 BA X
          have X := XB
          have U := UB
          clear XB UB
          have v0 := PP.get (x := .int .i64 pa) 0 rfl
          have v1 := PP.get (x := .int .i64 pb) 1 rfl
          have v2 := PP.get (x := .int .i64 pl) 2 rfl
          have lP := PP.lt
          have x0 := X.get (x := .int .i64 ea) 0 rfl
          have xb := X.get (x := .int .i64 eb) 1 rfl
          have lX0 := X.lt
          by_cases g1 : ea < pa + pl
          · have HF := Lib.hid (HX.out (gapB_yes1 g1))
            have g1a : (ea : Int) < (pa : Int) + (pl : Int) := by omega
            have g1b : decide ((ea : Int) < (pa : Int) + (pl : Int)) = true := by simpa using g1a
            clear g1
            go_wp2
            go_ret
            exact ⟨by rw [HF.out]; rfl, BB⟩
          · have g1a : ¬ (ea : Int) < (pa : Int) + (pl : Int) := by omega
            have g1b : decide ((ea : Int) < (pa : Int) + (pl : Int)) = false := by simpa using g1a
            by_cases g2 : ea = pa + pl
            · have g2a : ((ea : Int) == (pa : Int) + (pl : Int)) = true := by simp; omega
              by_cases g3 : eb = pb + pl
              · have g3a : ((eb : Int) == (pb : Int) + (pl : Int)) = true := by simp; omega
                have HF := Lib.hid (HX.out (gapB_yes2 g2 g3))
                clear g1 g2 g3
                go_wp2
                go_ret
                exact ⟨by rw [HF.out]; rfl, BB⟩
              · have g3a : ((eb : Int) == (pb : Int) + (pl : Int)) = false := by rw [beq_eq_false_iff_ne]; omega
                have HG := gapB_no2 (el := el) (pa := pa) g1 g3
                have NEXT := Lib.hid (fun u' (h : useL u eb el = some u') => NEXT0.out u' HG h)
                clear g1 g2 g3 HG HX NEXT0
                go_upto_region 12 with fail
                clear v0 v1 v2 x0 xb lX0 lP
                have x1 := X.get (x := .int .i64 eb) 1 rfl
                have x2 := X.get (x := .int .i64 el) 2 rfl
                have lX := X.lt
                go_wp2_with fail
                clear x1 x2
                go_loopw [8] (fun t wr2 => ∃ (k : Nat) (u2 : List Bool), t = .int .i64 k ∧ eb ≤ k ∧ k ≤ eb + el ∧ Hid (useL u2 k (eb + el - k) = useL u eb el) ∧ Hid (u2.length = 24) ∧ Hid (Blk wr2 w.heap.size 82 (bitsA u2)) ∧ Hid (Blk wr2 gx 76 #[.int .i64 ea, .int .i64 eb, .int .i64 el]) ∧ Below w.heap.size w wr2) (fun t _ => 24 - (intOf t).toNat)
                case atStart => exact ⟨eb, u, rfl, by omega, by omega, by rw [show eb + el - eb = el by omega]; rfl, ulen.out, U.out, X, BB⟩
                case round =>
                  clear X U BB lX
                  obtain ⟨k, u2, rfl, hk1, hk2, hu, ul2, U2, X2, B2⟩ := hrel
                  have x1 := X2.out.get (x := .int .i64 eb) 1 rfl
                  have x2 := X2.out.get (x := .int .i64 el) 2 rfl
                  have lX := X2.out.lt
                  have lw := B2.size
                  have ul := ul2.out
                  by_cases hkl : k < eb + el
                  · have kk : k < 24 := by omega
                    have q3 : (↑k : Int) < ↑eb + ↑el := by omega
                    have q4 : (0 : Int) ≤ ↑k := by omega
                    have q5 : (↑k : Int) < 24 := by omega
                    have ck : wr.cell? ⟨w.heap.size, k, none⟩ = some (.bool (u2[k]'(by omega))) := U2.out.bit (k := k) (by omega)
                    have fk := U2.out.frozen k
                    have hne : gx ≠ w.heap.size := Blk.ne_ X2.out U2.out (by decide)
                    have hgd : u2.getD k false = u2[k] := by rw [List.getD_eq_getElem?_getD, List.getElem?_eq_getElem (show k < u2.length by omega)]; rfl
                    have hsp : eb + el - k = (eb + el - (k + 1)) + 1 := by omega
                    have HM := Lib.hid (fun (h : u2.getD k false = false) => show useL (u2.set k true) (k + 1) (eb + el - (k + 1)) = useL u eb el by rw [← hu.out, hsp, useL_miss h])
                    have HH := Lib.hid (fun (h : u2.getD k false = true) => show useL u eb el = none by rw [← hu.out, hsp, useL_hit h])
                    have UN := Lib.hid (U2.out.bset k true)
                    have XN := Lib.hid (X2.out.far (p := ⟨w.heap.size, k, none⟩) hne (.bool true))
                    clear hsp
                    cases hb : u2[k]
                    · rw [hb] at ck hgd
                      have HM2 := Lib.hid (HM.out hgd)
                      clear hb hgd ul HM HH
                      go_wp2
                      go_roundw
                      case rel => exact ⟨k + 1, u2.set k true, by go_num, by omega, by omega, HM2.out, by have := ul2.out; show _ = _; rw [List.length_set]; exact this, UN.out, XN.out, belC B2 _ _ (Nat.le_refl _) _⟩
                      case measure => simp [intOf]; omega
                    · rw [hb] at ck hgd
                      have HH2 := Lib.hid (USED.out (HH.out hgd))
                      clear hb hgd ul HM HH
                      go_wp2
                      go_ret
                      exact ⟨by rw [HH2.out]; rfl, B2⟩
                  · have q3 : ¬ (↑k : Int) < ↑eb + ↑el := by omega
                    have HN := Lib.hid (NEXT.out u2 (by rw [← hu.out, show eb + el - k = 0 by omega]; rfl))
                    clear ul
                    go_wp2
                    first
                      | exact ⟨⟨j + 1, u2, by go_num, by omega, HN.out, U2.out, B2⟩, by simp [intOf]; omega⟩
                      | (go_roundw; case rel => exact ⟨j + 1, u2, by go_num, by omega, HN.out, U2.out, B2⟩; case measure => (simp [intOf]; omega))
            · have g2a : ((ea : Int) == (pa : Int) + (pl : Int)) = false := by rw [beq_eq_false_iff_ne]; omega
              have HG := gapB_no1 (pb := pb) (eb := eb) (el := el) g1 g2
              have NEXT := Lib.hid (fun u' (h : useL u eb el = some u') => NEXT0.out u' HG h)
              clear g1 g2 HG HX NEXT0
              go_upto_region 12 with fail
              clear v0 v1 v2 x0 xb lX0 lP
              have x1 := X.get (x := .int .i64 eb) 1 rfl
              have x2 := X.get (x := .int .i64 el) 2 rfl
              have lX := X.lt
              go_wp2_with fail
              clear x1 x2
              go_loopw [8] (fun t wr2 => ∃ (k : Nat) (u2 : List Bool), t = .int .i64 k ∧ eb ≤ k ∧ k ≤ eb + el ∧ Hid (useL u2 k (eb + el - k) = useL u eb el) ∧ Hid (u2.length = 24) ∧ Hid (Blk wr2 w.heap.size 82 (bitsA u2)) ∧ Hid (Blk wr2 gx 76 #[.int .i64 ea, .int .i64 eb, .int .i64 el]) ∧ Below w.heap.size w wr2) (fun t _ => 24 - (intOf t).toNat)
              case atStart => exact ⟨eb, u, rfl, by omega, by omega, by rw [show eb + el - eb = el by omega]; rfl, ulen.out, U.out, X, BB⟩
              case round =>
                clear X U BB lX
                obtain ⟨k, u2, rfl, hk1, hk2, hu, ul2, U2, X2, B2⟩ := hrel
                have x1 := X2.out.get (x := .int .i64 eb) 1 rfl
                have x2 := X2.out.get (x := .int .i64 el) 2 rfl
                have lX := X2.out.lt
                have lw := B2.size
                have ul := ul2.out
                by_cases hkl : k < eb + el
                · have kk : k < 24 := by omega
                  have q3 : (↑k : Int) < ↑eb + ↑el := by omega
                  have q4 : (0 : Int) ≤ ↑k := by omega
                  have q5 : (↑k : Int) < 24 := by omega
                  have ck : wr.cell? ⟨w.heap.size, k, none⟩ = some (.bool (u2[k]'(by omega))) := U2.out.bit (k := k) (by omega)
                  have fk := U2.out.frozen k
                  have hne : gx ≠ w.heap.size := Blk.ne_ X2.out U2.out (by decide)
                  have hgd : u2.getD k false = u2[k] := by rw [List.getD_eq_getElem?_getD, List.getElem?_eq_getElem (show k < u2.length by omega)]; rfl
                  have hsp : eb + el - k = (eb + el - (k + 1)) + 1 := by omega
                  have HM := Lib.hid (fun (h : u2.getD k false = false) => show useL (u2.set k true) (k + 1) (eb + el - (k + 1)) = useL u eb el by rw [← hu.out, hsp, useL_miss h])
                  have HH := Lib.hid (fun (h : u2.getD k false = true) => show useL u eb el = none by rw [← hu.out, hsp, useL_hit h])
                  have UN := Lib.hid (U2.out.bset k true)
                  have XN := Lib.hid (X2.out.far (p := ⟨w.heap.size, k, none⟩) hne (.bool true))
                  clear hsp
                  cases hb : u2[k]
                  · rw [hb] at ck hgd
                    have HM2 := Lib.hid (HM.out hgd)
                    clear hb hgd ul HM HH
                    go_wp2
                    go_roundw
                    case rel => exact ⟨k + 1, u2.set k true, by go_num, by omega, by omega, HM2.out, by have := ul2.out; show _ = _; rw [List.length_set]; exact this, UN.out, XN.out, belC B2 _ _ (Nat.le_refl _) _⟩
                    case measure => simp [intOf]; omega
                  · rw [hb] at ck hgd
                    have HH2 := Lib.hid (USED.out (HH.out hgd))
                    clear hb hgd ul HM HH
                    go_wp2
                    go_ret
                    exact ⟨by rw [HH2.out]; rfl, B2⟩
                · have q3 : ¬ (↑k : Int) < ↑eb + ↑el := by omega
                  have HN := Lib.hid (NEXT.out u2 (by rw [← hu.out, show eb + el - k = 0 by omega]; rfl))
                  clear ul
                  go_wp2
                  first
                    | exact ⟨⟨j + 1, u2, by go_num, by omega, HN.out, U2.out, B2⟩, by simp [intOf]; omega⟩
                    | (go_roundw; case rel => exact ⟨j + 1, u2, by go_num, by omega, HN.out, U2.out, B2⟩; case measure => (simp [intOf]; omega))
    · obtain rfl : j = n := by omega
      have HD := Lib.hid (show extsOkB xs = true from (Hl.out ▸ HI.out : ExI xs xs.length u).done)
      go_wp2
      go_ret
      exact ⟨by rw [HD.out]; rfl, hbel⟩

theorem own_drewN {w : World} {base : Nat} {e : TypeId} {size n : Nat} {v : Value} {xs : List Value} (h : w.ownsRow base e size v n xs) (k : Nat) : (w.drewN k).ownsRow base e size v n xs := h

set_option maxRecDepth 100000 in
set_option maxHeartbeats 8000000 in
theorem extsOk_spec (A : Option Addr) (n c : Nat) (xs : List ExtD) (hn : n ≤ 10000000) (w : World) (hr : Reads w w.heap.size 3 A n (XS xs)) :
    Calls Try.prog 50 #[.slice A n c] w fun e w' => e = .returned (.bool (extsOkB xs)) ∧ Below w.heap.size w w' := by
  have hl : xs.length = n := by have := hr.1; rw [XS_length] at this; omega
  have Hl := Lib.hid hl
  have Hr := Lib.hid hr
  clear hr hl
  have hmk := make_any (P := Try.prog) 22 4 (.bool false) 1 1 Try.underlying22 (by kernel_rfl) 24 (by omega) (by omega)
  have hmk2 : ∀ w, (Instr.makeSlice 22 (.int .i64 24) (.int .i64 24)).run Try.prog w = .ok (.slice (some ⟨w.heap.size, 0, none⟩) 24 24) (w.alloc (.cells (madeCells (Value.bool false).cells (24 * 1)) 4)) := hmk
  clear hmk
  have U0 := Lib.hid (show (w.alloc (.cells (madeCells (Value.bool false).cells (24 * 1)) 4)).ownsRow w.heap.size 4 1 (.slice (some ⟨w.heap.size, 0, none⟩) 24 24) 24 (BS (List.replicate 24 false)) by
    have h := own_make w (Value.bool false).cells 4 24 1 (by unfold maxLen; omega)
    rwa [show (madeCells (Value.bool false).cells (24 * 1)).toList = BS (List.replicate 24 false) by kernel_rfl] at h)
  obtain ⟨M, hM⟩ : ∃ M, madeCells (Value.bool false).cells (24 * 1) = M := ⟨_, rfl⟩
  rw [hM] at hmk2 U0
  clear hM
  go_enter Try.func50, Try.ntmps50
  go_wp2
  clear hmk2
  go_loopw [4] (fun i wr => ∃ (j : Nat) (u : List Bool), i = .int .i64 j ∧ j ≤ n ∧ Hid (ExI xs j u) ∧ Hid (wr.ownsRow w.heap.size 4 1 (.slice (some ⟨w.heap.size, 0, none⟩) 24 24) 24 (BS u)) ∧ Below w.heap.size w wr) (fun i _ => n - (intOf i).toNat)
  case atStart => exact ⟨0, List.replicate 24 false, rfl, by omega, ExI.zero xs, U0.out, belA (bel0 w) _⟩
  case round =>
    clear U0
    obtain ⟨j, u, rfl, hj, HI, U, hbel⟩ := hrel
    by_cases hlt : j < n
    · obtain ⟨hkx, b, o, rfl, hadb, z0, z1, z2⟩ := reads_ext (Hr.out.below hbel) hlt
      have q0 : (0 : Int) ≤ ↑j := by omega
      have q1 : (↑j : Int) < ↑n := by omega
      have ulen := Lib.hid HI.out.len
      obtain ⟨ej, hej⟩ : ∃ e, xs[j] = e := ⟨_, rfl⟩
      rw [hej] at z0 z1 z2
      have Hej := Lib.hid hej
      clear hej
      cases hok : extOk1 ej
      · have HF := Lib.hid (HI.out.bad1 hkx (by rw [Hej.out]; exact hok))
        have h12 : IntKind.i64.wrap (12 - ej.l) = 12 - ej.l ∨ inI ej.l 1 12 = false := by
          cases h : inI ej.l 1 12
          · exact .inr rfl
          · have := inI_true.1 h; exact .inl (by rw [IntKind.wrap_i64]; omega)
        cases hp1 : inI ej.l 1 12
        · clear hok h12
          go_wp2_with fail
          refine (l1In_any _ _ _ _).mono ?_
          rintro e w' ⟨rfl, rfl⟩
          rw [hp1]
          go_wp2
          go_ret
          exact ⟨by rw [HF.out]; rfl, belA hbel _⟩
        · have hl := inI_true.1 hp1
          have wl1 : IntKind.i64.wrap (12 - ej.l) = 12 - ej.l := by rw [IntKind.wrap_i64]; omega
          have wl2 : IntKind.i64.wrap (24 - ej.l) = 24 - ej.l := by rw [IntKind.wrap_i64]; omega
          clear h12
          cases hp2 : inI ej.a 0 (12 - ej.l)
          · clear hok hl
            go_wp2_with fail
            refine (l1In_any _ _ _ _).mono ?_
            rintro e w' ⟨rfl, rfl⟩
            rw [hp1]
            go_wp2_with fail
            refine (l1In_any _ _ _ _).mono ?_
            rintro e w' ⟨rfl, rfl⟩
            rw [hp2]
            go_wp2
            go_ret
            exact ⟨by rw [HF.out]; rfl, belA hbel _⟩
          · have hp3 : inI ej.b 0 (24 - ej.l) = false := by
              cases h : inI ej.b 0 (24 - ej.l)
              · rfl
              · exfalso
                have h3 := inI_true.1 h
                have h2 := inI_true.1 hp2
                have : extOk1 ej = true := extOk1_iff.2 (by omega)
                rw [hok] at this; cases this
            clear hok hl
            go_wp2_with fail
            refine (l1In_any _ _ _ _).mono ?_
            rintro e w' ⟨rfl, rfl⟩
            rw [hp1]
            go_wp2_with fail
            refine (l1In_any _ _ _ _).mono ?_
            rintro e w' ⟨rfl, rfl⟩
            rw [hp2]
            go_wp2_with fail
            refine (l1In_any _ _ _ _).mono ?_
            rintro e w' ⟨rfl, rfl⟩
            rw [hp3]
            go_wp2
            go_ret
            exact ⟨by rw [HF.out]; rfl, belA hbel _⟩
      · have HOK := Lib.hid hok
        obtain ⟨ea, eb, el, rfl, n1, n2, n3⟩ := extOk1_nat hok
        simp only at z0 z1 z2
        have hp1 : inI el 1 12 = true := inI_true.2 (by omega)
        have wl1 : IntKind.i64.wrap (12 - (el : Int)) = 12 - (el : Int) := by rw [IntKind.wrap_i64]; omega
        have wl2 : IntKind.i64.wrap (24 - (el : Int)) = 24 - (el : Int) := by rw [IntKind.wrap_i64]; omega
        have hp2 : inI ea 0 (12 - (el : Int)) = true := inI_true.2 (by omega)
        have hp3 : inI eb 0 (24 - (el : Int)) = true := inI_true.2 (by omega)
        clear hok
        obtain ⟨wa, hwa⟩ : ∃ W, wr.alloc (.cells #[.int .i64 ea, .int .i64 eb, .int .i64 el] 76) = W := ⟨_, rfl⟩
        obtain ⟨gx, hgx⟩ : ∃ g, wr.heap.size = g := ⟨_, rfl⟩
        have X : Blk wa gx 76 #[.int .i64 ea, .int .i64 eb, .int .i64 el] := by rw [← hwa, ← hgx]; exact Blk.new' _ _ _ _ rfl
        have BA : Below w.heap.size w wa := by rw [← hwa]; exact belA hbel _
        have UA := Lib.hid (show wa.ownsRow w.heap.size 4 1 (.slice (some ⟨w.heap.size, 0, none⟩) 24 24) 24 (BS u) by rw [← hwa]; exact U.out.alloc _)
        have USED := Lib.hid (fun (h : useL u eb el = none) => HI.out.used hkx (by rw [Hej.out]; simpa using h))
        have x0 := X.get (x := .int .i64 ea) 0 rfl
        have x1 := X.get (x := .int .i64 eb) 1 rfl
        have x2 := X.get (x := .int .i64 el) 2 rfl
        have lX := X.lt
        go_wp2_with fail
        refine (l1In_any _ _ _ _).mono ?_
        rintro e w' ⟨rfl, rfl⟩
        rw [hp1]
        clear hwa hgx
        go_wp2_with fail
        refine (l1In_any _ _ _ _).mono ?_
        rintro e w' ⟨rfl, rfl⟩
        rw [hp2]
        go_wp2_with fail
        refine (l1In_any _ _ _ _).mono ?_
        rintro e w' ⟨rfl, rfl⟩
        rw [hp3]
        clear hp1 hp2 hp3 x0 x1 x2 lX wl1 wl2
        clear z0 z1 z2
        rcases Nat.eq_zero_or_pos j with h0 | h0
        · have j0 : ¬ (0 : Int) < ↑j := by omega
          have NEXT := Lib.hid (fun u' (h : useL u eb el = some u') => HI.out.nextO hkx (by rw [Hej.out]; exact HOK.out) (by unfold prevE; rw [if_pos h0]; rfl) (by rw [Hej.out]; simpa using h))
          have U := UA
          have BB := BA
          clear UA BA HI HOK Hej hbel h0
          have x1 := X.get (x := .int .i64 eb) 1 rfl
          have x2 := X.get (x := .int .i64 el) 2 rfl
          have lX := X.lt
          go_wp2_with fail
          clear x1 x2
          go_loopw [7] (fun t wr2 => ∃ (k : Nat) (u2 : List Bool), t = .int .i64 k ∧ eb ≤ k ∧ k ≤ eb + el ∧ Hid (useL u2 k (eb + el - k) = useL u eb el) ∧ Hid (u2.length = 24) ∧ Hid (wr2.ownsRow w.heap.size 4 1 (.slice (some ⟨w.heap.size, 0, none⟩) 24 24) 24 (BS u2)) ∧ Hid (Blk wr2 gx 76 #[.int .i64 ea, .int .i64 eb, .int .i64 el]) ∧ Below w.heap.size w wr2) (fun t _ => 24 - (intOf t).toNat)
          case atStart => exact ⟨eb, u, rfl, by omega, by omega, by rw [show eb + el - eb = el by omega]; rfl, ulen.out, U.out, X, BB⟩
          case round =>
            clear X U BB lX
            obtain ⟨k, u2, rfl, hk1, hk2, hu, ul2, U2, X2, B2⟩ := hrel
            have x1 := X2.out.get (x := .int .i64 eb) 1 rfl
            have x2 := X2.out.get (x := .int .i64 el) 2 rfl
            have lX := X2.out.lt
            have lw := B2.size
            have ul := ul2.out
            by_cases hkl : k < eb + el
            · have kk : k < 24 := by omega
              have q3 : (↑k : Int) < ↑eb + ↑el := by omega
              have q4 : (0 : Int) ≤ ↑k := by omega
              have q5 : (↑k : Int) < 24 := by omega
              have ck : wr.cell? ⟨w.heap.size, k, none⟩ = some (.bool (u2[k]'(by omega))) := by rw [U2.out.cellAt k (by omega)]; exact BS_get _ _ (by omega)
              have fk := own_frozen U2.out k
              have hne : gx ≠ w.heap.size := fun e => own_blk_ne U2.out X2.out (by decide) (by rw [e]; rfl)
              have hgd : u2.getD k false = u2[k] := by rw [List.getD_eq_getElem?_getD, List.getElem?_eq_getElem (show k < u2.length by omega)]; rfl
              have hsp : eb + el - k = (eb + el - (k + 1)) + 1 := by omega
              have HM := Lib.hid (fun (h : u2.getD k false = false) => show useL (u2.set k true) (k + 1) (eb + el - (k + 1)) = useL u eb el by rw [← hu.out, hsp, useL_miss h])
              have HH := Lib.hid (fun (h : u2.getD k false = true) => show useL u eb el = none by rw [← hu.out, hsp, useL_hit h])
              have UN := Lib.hid (show (wr.setCell ⟨w.heap.size, k, none⟩ (.bool true)).ownsRow w.heap.size 4 1 (.slice (some ⟨w.heap.size, 0, none⟩) 24 24) 24 (BS (u2.set k true)) by rw [← BS_set]; exact own_set U2.out k (.bool true))
              have XN := Lib.hid (X2.out.far (p := ⟨w.heap.size, k, none⟩) hne (.bool true))
              clear hsp
              cases hb : u2[k]
              · rw [hb] at ck hgd
                have HM2 := Lib.hid (HM.out hgd)
                clear hb hgd ul HM HH
                go_wp2
                go_roundw
                case rel => exact ⟨k + 1, u2.set k true, by go_num, by omega, by omega, HM2.out, by have := ul2.out; show _ = _; rw [List.length_set]; exact this, UN.out, XN.out, belC B2 _ _ (Nat.le_refl _) _⟩
                case measure => simp [intOf]; omega
              · rw [hb] at ck hgd
                have HH2 := Lib.hid (USED.out (HH.out hgd))
                clear hb hgd ul HM HH
                go_wp2
                go_ret
                exact ⟨by rw [HH2.out]; rfl, B2⟩
            · have q3 : ¬ (↑k : Int) < ↑eb + ↑el := by omega
              have HN := Lib.hid (NEXT.out u2 (by rw [← hu.out, show eb + el - k = 0 by omega]; rfl))
              clear ul
              go_wp2
              first
                | exact ⟨⟨j + 1, u2, by go_num, by omega, HN.out, U2.out, B2⟩, by simp [intOf]; omega⟩
                | (go_roundw; case rel => exact ⟨j + 1, u2, by go_num, by omega, HN.out, U2.out, B2⟩; case measure => (simp [intOf]; omega))
        · obtain ⟨p, hp⟩ : ∃ p, j = p + 1 := ⟨j - 1, by omega⟩
          obtain ⟨hkp, b', o', hbo, _, y0, y1, y2⟩ := reads_ext (Hr.out.below BA) (show p < n by omega)
          simp only [Option.some.injEq, Addr.mk.injEq, and_true] at hbo
          obtain ⟨rfl, rfl⟩ := hbo
          obtain ⟨pa, pb, pl, hpe, m1, m2, m3⟩ := extOk1_nat (HI.out.prevOf hp hkp)
          rw [hpe] at y0 y1 y2
          simp only at y0 y1 y2
          have Hpe := Lib.hid hpe
          have Hp := Lib.hid hp
          have j0 : (0 : Int) < ↑j := by omega
          have wJ : IntKind.i64.wrap ((j : Int) - 1) = (p : Int) := by rw [IntKind.wrap_i64]; omega
          have p0 : (0 : Int) ≤ (p : Int) := by omega
          have p1 : (p : Int) < (n : Int) := by omega
          have HX := Lib.hid (show gapB ⟨pa, pb, pl⟩ ⟨ea, eb, el⟩ = true → extsOkB xs = false from fun h => HI.out.badO hkx (by rw [prevE_of xs Hp.out hkp, Hpe.out, Hej.out]; exact h))
          have NEXT0 := Lib.hid (fun u' (hg : gapB ⟨pa, pb, pl⟩ ⟨ea, eb, el⟩ = false) (h : useL u eb el = some u') => HI.out.nextO hkx (by rw [Hej.out]; exact HOK.out) (by rw [prevE_of xs Hp.out hkp, Hpe.out, Hej.out]; exact hg) (by rw [Hej.out]; simpa using h))
          clear hpe hp HI HOK Hej Hpe h0 hkx hkp hbel
          have U := UA
          have BB := BA
          clear UA BA
          have wq : IntKind.i64.wrap ((pa : Int) + (pl : Int)) = (pa : Int) + (pl : Int) := by rw [IntKind.wrap_i64]; omega
          have wq2 : IntKind.i64.wrap ((pb : Int) + (pl : Int)) = (pb : Int) + (pl : Int) := by rw [IntKind.wrap_i64]; omega
          go_upto_region 9 with fail
          go_quiet (fail)
          rename Nat => nq1
          have x0 := X.get (x := .int .i64 ea) 0 rfl
          have xb := X.get (x := .int .i64 eb) 1 rfl
          have lX0 := X.lt
          by_cases g1 : ea < pa + pl
          · have HF := Lib.hid (HX.out (gapB_yes1 g1))
            have g1a : (ea : Int) < (pa : Int) + (pl : Int) := by omega
            have g1b : decide ((ea : Int) < (pa : Int) + (pl : Int)) = true := by simpa using g1a
            clear g1
            go_upto_region 10 with fail
            go_quiet (fail)
            rename Nat => nq2
            go_wp2
            go_ret
            exact ⟨by rw [HF.out]; rfl, by first | exact below_drewN BB _ | exact below_drewN (below_drewN BB _) _⟩
          · have g1a : ¬ (ea : Int) < (pa : Int) + (pl : Int) := by omega
            have g1b : decide ((ea : Int) < (pa : Int) + (pl : Int)) = false := by simpa using g1a
            by_cases g2 : ea = pa + pl
            · have g2a : ((ea : Int) == (pa : Int) + (pl : Int)) = true := by simp; omega
              by_cases g3 : eb = pb + pl
              · have g3a : ((eb : Int) == (pb : Int) + (pl : Int)) = true := by simp; omega
                have HF := Lib.hid (HX.out (gapB_yes2 g2 g3))
                clear g1 g2 g3
                go_upto_region 10 with fail
                go_quiet (fail)
                rename Nat => nq2
                go_wp2
                go_ret
                exact ⟨by rw [HF.out]; rfl, by first | exact below_drewN BB _ | exact below_drewN (below_drewN BB _) _⟩
              · have g3a : ((eb : Int) == (pb : Int) + (pl : Int)) = false := by rw [beq_eq_false_iff_ne]; omega
                have HG := gapB_no2 (el := el) (pa := pa) g1 g3
                have NEXT := Lib.hid (fun u' (h : useL u eb el = some u') => NEXT0.out u' HG h)
                clear g1 g2 g3 HG HX NEXT0
                go_upto_region 10 with fail
                go_quiet (fail)
                rename Nat => nq2
                have X := X.drewN (nq1 + nq2)
                have U := Lib.hid (own_drewN U.out (nq1 + nq2))
                have BB := below_drewN BB (nq1 + nq2)
                clear y0 y1 y2 wJ p0 p1 x0 xb lX0 wq wq2
                have x1 := X.get (x := .int .i64 eb) 1 rfl
                have x2 := X.get (x := .int .i64 el) 2 rfl
                have lX := X.lt
                go_wp2_with fail
                clear x1 x2
                go_loopw [7] (fun t wr2 => ∃ (k : Nat) (u2 : List Bool), t = .int .i64 k ∧ eb ≤ k ∧ k ≤ eb + el ∧ Hid (useL u2 k (eb + el - k) = useL u eb el) ∧ Hid (u2.length = 24) ∧ Hid (wr2.ownsRow w.heap.size 4 1 (.slice (some ⟨w.heap.size, 0, none⟩) 24 24) 24 (BS u2)) ∧ Hid (Blk wr2 gx 76 #[.int .i64 ea, .int .i64 eb, .int .i64 el]) ∧ Below w.heap.size w wr2) (fun t _ => 24 - (intOf t).toNat)
                case atStart => exact ⟨eb, u, rfl, by omega, by omega, by rw [show eb + el - eb = el by omega]; rfl, ulen.out, U.out, X, BB⟩
                case round =>
                  clear X U BB lX
                  obtain ⟨k, u2, rfl, hk1, hk2, hu, ul2, U2, X2, B2⟩ := hrel
                  have x1 := X2.out.get (x := .int .i64 eb) 1 rfl
                  have x2 := X2.out.get (x := .int .i64 el) 2 rfl
                  have lX := X2.out.lt
                  have lw := B2.size
                  have ul := ul2.out
                  by_cases hkl : k < eb + el
                  · have kk : k < 24 := by omega
                    have q3 : (↑k : Int) < ↑eb + ↑el := by omega
                    have q4 : (0 : Int) ≤ ↑k := by omega
                    have q5 : (↑k : Int) < 24 := by omega
                    have ck : wr.cell? ⟨w.heap.size, k, none⟩ = some (.bool (u2[k]'(by omega))) := by rw [U2.out.cellAt k (by omega)]; exact BS_get _ _ (by omega)
                    have fk := own_frozen U2.out k
                    have hne : gx ≠ w.heap.size := fun e => own_blk_ne U2.out X2.out (by decide) (by rw [e]; rfl)
                    have hgd : u2.getD k false = u2[k] := by rw [List.getD_eq_getElem?_getD, List.getElem?_eq_getElem (show k < u2.length by omega)]; rfl
                    have hsp : eb + el - k = (eb + el - (k + 1)) + 1 := by omega
                    have HM := Lib.hid (fun (h : u2.getD k false = false) => show useL (u2.set k true) (k + 1) (eb + el - (k + 1)) = useL u eb el by rw [← hu.out, hsp, useL_miss h])
                    have HH := Lib.hid (fun (h : u2.getD k false = true) => show useL u eb el = none by rw [← hu.out, hsp, useL_hit h])
                    have UN := Lib.hid (show (wr.setCell ⟨w.heap.size, k, none⟩ (.bool true)).ownsRow w.heap.size 4 1 (.slice (some ⟨w.heap.size, 0, none⟩) 24 24) 24 (BS (u2.set k true)) by rw [← BS_set]; exact own_set U2.out k (.bool true))
                    have XN := Lib.hid (X2.out.far (p := ⟨w.heap.size, k, none⟩) hne (.bool true))
                    clear hsp
                    cases hb : u2[k]
                    · rw [hb] at ck hgd
                      have HM2 := Lib.hid (HM.out hgd)
                      clear hb hgd ul HM HH
                      go_wp2
                      go_roundw
                      case rel => exact ⟨k + 1, u2.set k true, by go_num, by omega, by omega, HM2.out, by have := ul2.out; show _ = _; rw [List.length_set]; exact this, UN.out, XN.out, belC B2 _ _ (Nat.le_refl _) _⟩
                      case measure => simp [intOf]; omega
                    · rw [hb] at ck hgd
                      have HH2 := Lib.hid (USED.out (HH.out hgd))
                      clear hb hgd ul HM HH
                      go_wp2
                      go_ret
                      exact ⟨by rw [HH2.out]; rfl, B2⟩
                  · have q3 : ¬ (↑k : Int) < ↑eb + ↑el := by omega
                    have HN := Lib.hid (NEXT.out u2 (by rw [← hu.out, show eb + el - k = 0 by omega]; rfl))
                    clear ul
                    go_wp2
                    first
                      | exact ⟨⟨j + 1, u2, by go_num, by omega, HN.out, U2.out, B2⟩, by simp [intOf]; omega⟩
                      | (go_roundw; case rel => exact ⟨j + 1, u2, by go_num, by omega, HN.out, U2.out, B2⟩; case measure => (simp [intOf]; omega))
            · have g2a : ((ea : Int) == (pa : Int) + (pl : Int)) = false := by rw [beq_eq_false_iff_ne]; omega
              have HG := gapB_no1 (pb := pb) (eb := eb) (el := el) g1 g2
              have NEXT := Lib.hid (fun u' (h : useL u eb el = some u') => NEXT0.out u' HG h)
              clear g1 g2 HG HX NEXT0
              go_upto_region 10 with fail
              go_quiet (fail)
              rename Nat => nq2
              have X := X.drewN (nq1 + nq2)
              have U := Lib.hid (own_drewN U.out (nq1 + nq2))
              have BB := below_drewN BB (nq1 + nq2)
              clear y0 y1 y2 wJ p0 p1 x0 xb lX0 wq wq2
              have x1 := X.get (x := .int .i64 eb) 1 rfl
              have x2 := X.get (x := .int .i64 el) 2 rfl
              have lX := X.lt
              go_wp2_with fail
              clear x1 x2
              go_loopw [7] (fun t wr2 => ∃ (k : Nat) (u2 : List Bool), t = .int .i64 k ∧ eb ≤ k ∧ k ≤ eb + el ∧ Hid (useL u2 k (eb + el - k) = useL u eb el) ∧ Hid (u2.length = 24) ∧ Hid (wr2.ownsRow w.heap.size 4 1 (.slice (some ⟨w.heap.size, 0, none⟩) 24 24) 24 (BS u2)) ∧ Hid (Blk wr2 gx 76 #[.int .i64 ea, .int .i64 eb, .int .i64 el]) ∧ Below w.heap.size w wr2) (fun t _ => 24 - (intOf t).toNat)
              case atStart => exact ⟨eb, u, rfl, by omega, by omega, by rw [show eb + el - eb = el by omega]; rfl, ulen.out, U.out, X, BB⟩
              case round =>
                clear X U BB lX
                obtain ⟨k, u2, rfl, hk1, hk2, hu, ul2, U2, X2, B2⟩ := hrel
                have x1 := X2.out.get (x := .int .i64 eb) 1 rfl
                have x2 := X2.out.get (x := .int .i64 el) 2 rfl
                have lX := X2.out.lt
                have lw := B2.size
                have ul := ul2.out
                by_cases hkl : k < eb + el
                · have kk : k < 24 := by omega
                  have q3 : (↑k : Int) < ↑eb + ↑el := by omega
                  have q4 : (0 : Int) ≤ ↑k := by omega
                  have q5 : (↑k : Int) < 24 := by omega
                  have ck : wr.cell? ⟨w.heap.size, k, none⟩ = some (.bool (u2[k]'(by omega))) := by rw [U2.out.cellAt k (by omega)]; exact BS_get _ _ (by omega)
                  have fk := own_frozen U2.out k
                  have hne : gx ≠ w.heap.size := fun e => own_blk_ne U2.out X2.out (by decide) (by rw [e]; rfl)
                  have hgd : u2.getD k false = u2[k] := by rw [List.getD_eq_getElem?_getD, List.getElem?_eq_getElem (show k < u2.length by omega)]; rfl
                  have hsp : eb + el - k = (eb + el - (k + 1)) + 1 := by omega
                  have HM := Lib.hid (fun (h : u2.getD k false = false) => show useL (u2.set k true) (k + 1) (eb + el - (k + 1)) = useL u eb el by rw [← hu.out, hsp, useL_miss h])
                  have HH := Lib.hid (fun (h : u2.getD k false = true) => show useL u eb el = none by rw [← hu.out, hsp, useL_hit h])
                  have UN := Lib.hid (show (wr.setCell ⟨w.heap.size, k, none⟩ (.bool true)).ownsRow w.heap.size 4 1 (.slice (some ⟨w.heap.size, 0, none⟩) 24 24) 24 (BS (u2.set k true)) by rw [← BS_set]; exact own_set U2.out k (.bool true))
                  have XN := Lib.hid (X2.out.far (p := ⟨w.heap.size, k, none⟩) hne (.bool true))
                  clear hsp
                  cases hb : u2[k]
                  · rw [hb] at ck hgd
                    have HM2 := Lib.hid (HM.out hgd)
                    clear hb hgd ul HM HH
                    go_wp2
                    go_roundw
                    case rel => exact ⟨k + 1, u2.set k true, by go_num, by omega, by omega, HM2.out, by have := ul2.out; show _ = _; rw [List.length_set]; exact this, UN.out, XN.out, belC B2 _ _ (Nat.le_refl _) _⟩
                    case measure => simp [intOf]; omega
                  · rw [hb] at ck hgd
                    have HH2 := Lib.hid (USED.out (HH.out hgd))
                    clear hb hgd ul HM HH
                    go_wp2
                    go_ret
                    exact ⟨by rw [HH2.out]; rfl, B2⟩
                · have q3 : ¬ (↑k : Int) < ↑eb + ↑el := by omega
                  have HN := Lib.hid (NEXT.out u2 (by rw [← hu.out, show eb + el - k = 0 by omega]; rfl))
                  clear ul
                  go_wp2
                  first
                    | exact ⟨⟨j + 1, u2, by go_num, by omega, HN.out, U2.out, B2⟩, by simp [intOf]; omega⟩
                    | (go_roundw; case rel => exact ⟨j + 1, u2, by go_num, by omega, HN.out, U2.out, B2⟩; case measure => (simp [intOf]; omega))
    · obtain rfl : j = n := by omega
      have HD := Lib.hid (show extsOkB xs = true from (Hl.out ▸ HI.out : ExI xs xs.length u).done)
      go_wp2
      go_ret
      exact ⟨by rw [HD.out]; rfl, hbel⟩

end Go.Proofs.Ytajgenjfhcapjaa
