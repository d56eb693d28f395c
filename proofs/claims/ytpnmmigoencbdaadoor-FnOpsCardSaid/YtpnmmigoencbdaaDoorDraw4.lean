/- What is drawn: rows of signs, names. -/
import Derived.Test.YtpnmmigoencbdaaDoorDraw3
namespace Go.Proofs.YtpnmmigoencbdaaDoor
open Go Go.RowKit

theorem gb_bel0 {a w w1 : World} {g : Nat} (h : a.grownBy w (some g)) (hb : Below a.heap.size w w1) : a.grownBy w1 (some g) :=
  ⟨hb.os.trans h.os, hb.tape.trans h.tape, hb.output.trans h.output, Nat.le_trans h.size hb.size, fun i hi hn => (hb.block i hi).trans (h.block i hi hn)⟩
theorem Curs.bel {w w' : World} {B g : Nat} {A : Option Addr} {n cp : Nat} {bs : List UInt8} (h : Curs w g A n cp bs) (hb : Below B w w') (hB : g < B) : Curs w' g A n cp bs := by
  obtain ⟨i, h, hi, hk, hr⟩ := h
  exact ⟨i, h, hi, hk.below hb hB, hr.below (hb.mono (Nat.le_of_lt hB))⟩
theorem own_g {w w' : World} {base n size g : Nat} {e : TypeId} {v : Value} {xs : List Value} (h : w.ownsRow base e size v n xs) (hg : w.grownBy w' (some g)) (hgb : g < base) : w'.ownsRow base e size v n xs :=
  h.kept hg (by
    rcases hv : v.ownBlock with _ | k
    · exact .inl rfl
    · right; intro he; injection he with he; have := (h.lt k hv).1; omega)

set_option maxRecDepth 100000 in
set_option maxHeartbeats 2000000 in
theorem l3List_any (g : Nat) (A : Option Addr) (n cp : Nat) (bs : List UInt8) (hn : n ≤ 9223372036854775806) (most : Nat) (hm : most ≤ 1000) (w : World) (h : Curs w g A n cp bs) :
    Calls Tryd.prog 73 #[.pointer (some ⟨g, 0, none⟩), .int .i64 most] w fun e w' => ∃ v xs, e = .returned v ∧ xs.length ≤ most ∧ w'.ownsRow w.heap.size 3 1 v xs.length (II xs) ∧ Curs w' g A n cp bs ∧ w.grownBy w' (some g) := by
  have Hb := Lib.hid (fun m hm W hW => l1Below_any g A n cp bs hn m hm W hW)
  have Hs := Lib.hid (fun W hW => l3Some_any g A n cp bs hn W hW)
  have hlt := h.lt
  have own0 := World.ownsRow_lit (e := 3) (size := 1) w #[] 0 (Nat.le_refl _) (by unfold maxLen; omega) rfl
  go_enter Tryd.func73, Tryd.ntmps73
  go_wp2_with fail
  refine (Hb.out _ (by omega) _ (h.alloc _)).mono ?_
  rintro e w1 ⟨x, rfl, _, hx, hc1, hg1⟩
  obtain ⟨hx0, hx1⟩ := hx (by omega)
  obtain ⟨k, rfl⟩ : ∃ k : Nat, x = (k : Int) := ⟨x.toNat, by omega⟩
  have own1 := own_g own0 hg1 hlt
  have G1 := gb_al hg1
  go_wp2
  go_loopw [5, 6] (fun v i wr => ∃ (k : Nat) (xs : List Int), i = .int .i64 k ∧ k + xs.length ≤ most ∧ Hid (wr.ownsRow w.heap.size 3 1 v xs.length (II xs)) ∧ Curs wr g A n cp bs ∧ w.grownBy wr (some g))
    (fun _ i _ => (intOf i).toNat)
  case atStart => exact ⟨k, [], rfl, by simp; omega, own1, hc1, G1⟩
  case round =>
    clear own1 hc1 G1 hg1
    obtain ⟨k, xs, rfl, hk, Own, hc, G⟩ := hrel
    by_cases h0 : k = 0
    · subst h0
      go_wp2
      go_ret
      exact ⟨_, xs, rfl, by omega, Own.out, hc, G⟩
    · have hk0 : (k : Int) > 0 := by omega
      go_wp2_with fail
      refine (Hs.out _ hc).mono ?_
      rintro e w2 ⟨y, rfl, hc2, hg2⟩
      have Own2 := Lib.hid (own_g Own.out hg2 hlt)
      have G2 := G.trans hg2
      have sz := G2.size
      go_wp2_with (at_builtin; refine wpList_app _ rfl _ _ _ rfl Tryd.el_int (Own2.out.alloc _) rfl (reads_new _ _ _ _ 1 (by rfl)) rfl (by simp [Value.oneCell']) (max_small (by omega)) (by omega) (by simp; omega) ?_; intro v3 w3 own3 hg3 _ hb3)
      have own4 : w3.ownsRow w.heap.size 3 1 v3 (xs ++ [y]).length (II (xs ++ [y])) := by
        rw [List.length_append, show II (xs ++ [y]) = II xs ++ [.int .i64 y] by simp [II]]
        exact own3
      have hb4 : Below w.heap.size w2 w3 := ((Below.refl w.heap.size w2).alloc sz (.cells #[.int .i64 y] 3)).trans hb3
      have hc4 := hc2.bel hb4 hlt
      have G4 := gb_bel0 G2 hb4
      have Own4 := Lib.hid own4
      clear own3 own4
      have w4 : IntKind.i64.wrap ((k : Int) - 1) = ((k - 1 : Nat) : Int) := by rw [IntKind.wrap_i64]; omega
      go_wp2
      first
        | exact ⟨⟨k - 1, xs ++ [y], by go_num, by simp; omega, Own4.out, hc4, G4⟩, by simp [intOf]; omega⟩
        | (go_roundw; case rel => exact ⟨k - 1, xs ++ [y], by go_num, by simp; omega, Own4.out, hc4, G4⟩; case measure => (simp [intOf]; omega))

set_option maxRecDepth 100000 in
set_option maxHeartbeats 2000000 in
theorem l4Name_any (g : Nat) (A : Option Addr) (n cp : Nat) (bs : List UInt8) (hn : n ≤ 9223372036854775806) (w : World) (h : Curs w g A n cp bs) :
    Calls Tryd.prog 51 #[.pointer (some ⟨g, 0, none⟩)] w fun e w' => ∃ s : ByteArray, e = .returned (.string s) ∧ s.size ≤ 25 ∧ Curs w' g A n cp bs ∧ w.grownBy w' (some g) := by
  have Ho := Lib.hid (fun m hm W hW => l1Once_any g A n cp bs hn m hm W hW)
  have Hl := Lib.hid (fun W hW => l3List_any g A n cp bs hn 4 (by omega) W hW)
  have hlt := h.lt
  go_enter Tryd.func51, Tryd.ntmps51
  go_wp2_with fail
  refine (l1Pick_any g A n cp bs hn (some ⟨w.heap.size, 0, none⟩) 29 29 nms1 (by omega) (by omega) _ (h.alloc _) (show Reads _ _ 1 _ _ _ from reads_lit w _ _ _ rfl) (fun ad e => by injection e with e; rw [← e]; simp only; omega)).mono ?_
  rintro e w1 ⟨x, rfl, hxm, hc1, hg1⟩
  have hx25 := nms1_sz x hxm
  have G1 := gb_al hg1
  go_wp2_with fail
  refine (Ho.out _ (by omega) w1 hc1).mono ?_
  rintro e w2 ⟨b, rfl, hc2, hg2⟩
  have G2 := G1.trans hg2
  cases b
  case true =>
    go_wp2_with fail
    refine (Hl.out w2 hc2).mono ?_
    rintro e w3 ⟨v, xs, rfl, hxs, own3, hc3, hg3⟩
    obtain ⟨A3, c3, rfl, _, _, hr3⟩ := own_vals own3
    have hsz := encB_size xs
    have G3 := G2.trans hg3
    go_wp2_with fail
    refine (encode_spec A3 xs.length c3 xs rfl (by omega) w3 hr3).mono ?_
    rintro e w4 ⟨rfl, hb4⟩
    go_wp2
    go_ret
    exact ⟨_, rfl, by omega, hc3.below hb4, gb_below G3 hb4⟩
  case false =>
    go_wp2_with fail
    refine (Ho.out _ (by omega) w2 hc2).mono ?_
    rintro e w3 ⟨b, rfl, hc3, hg3⟩
    have G3 := G2.trans hg3
    have hlt3 := hc3.lt
    cases b
    case true =>
      go_wp2_with fail
      refine (l1Pick_any g A n cp bs hn (some ⟨w3.heap.size, 0, none⟩) 9 9 nms2 (by omega) (by omega) _ (hc3.alloc _) (show Reads _ _ 1 _ _ _ from reads_lit w3 _ _ _ rfl) (fun ad e => by injection e with e; rw [← e]; simp only; omega)).mono ?_
      rintro e w4 ⟨y, rfl, hym, hc4, hg4⟩
      go_wp2
      go_ret
      exact ⟨_, rfl, nms2_sz y hym, hc4, G3.trans (gb_al hg4)⟩
    case false =>
      go_wp2
      go_ret
      exact ⟨_, rfl, hx25, hc3, G3⟩

end Go.Proofs.YtpnmmigoencbdaaDoor
