/- What is drawn: the draws of FnDirPages. -/
import Derived.Test.YtbchbmcphbeikaaGreatDoorPsG
import Derived.Test.YtbchbmcphbeikaaGreatDoorDraw
namespace Go.Proofs.YtbchbmcphbeikaaGreatDoor
open Go Go.RowKit

theorem PgSt.bel {N : Nat} {a w wr : World} {g : Nat} {A : Option Addr} {n cp : Nat} {bs : List UInt8} {v : Value} (h : PgSt N w g A n cp bs wr v) (hb : Below a.heap.size a w) (hg : a.heap.size ≤ g) : Below a.heap.size a wr := belG hb h.gr hg

theorem own_names {w : World} {base g n c : Nat} {l : List EntD} (h : w.ownsRow base 40 4 (.slice (some ⟨g, 0, none⟩) n c) n (ES l)) : ∀ (k : Nat) (hk : k < l.length), w.cell? ⟨g, k * 4 + 2, none⟩ = some (.string l[k].s) := by
  intro k hk
  have hl : l.length = n := by have := h.1; rw [ES_length] at this; omega
  subst hl
  obtain ⟨_, bb, oo, hbo, _, _, _, z2, _⟩ := reads_ent (Reads.of_own h) hk
  simp only [Option.some.injEq, Addr.mk.injEq, and_true] at hbo
  obtain ⟨rfl, rfl⟩ := hbo
  simp only [Nat.zero_add] at z2
  exact z2

set_option maxRecDepth 100000 in
set_option maxHeartbeats 4000000 in
theorem drawDpAdd_any (A : Option Addr) (n cp : Nat) (bs : List UInt8) (hn : n ≤ 9223372036854775000) (w : World) (hr : Reads w w.heap.size 1 A n (B8 bs)) :
    Calls Tryz.prog 5 #[.slice A n cp] w fun e w' => ∃ (v : Value) (s : ByteArray) (i : Int) (ps : List (List EntD)), e = .returned (.tuple #[v, .string s, .int .i64 i]) ∧ s.size ≤ 25 ∧ IsSS w' v ps ∧ szSS ps ≤ 1048576 ∧ Below w.heap.size w w' := by
  go_enter Tryz.func5, Tryz.ntmps5
  go_wp2_with fail
  refine (l1New_any A n cp bs (by omega) w hr).mono ?_
  rintro e w2 ⟨g, rfl, hg, hc, hb2⟩
  clear hr
  go_wp2_with fail
  refine (l4Name_any g A n cp bs (by omega) w2 hc).mono ?_
  rintro e w3 ⟨s, rfl, hs, hc3, hg3⟩
  have B3 := belG hb2 hg3 hg
  go_wp2_with fail
  refine (l1Below_any g A n cp bs (by omega) 12 (by omega) w3 hc3).mono ?_
  rintro e w4 ⟨i, rfl, _, _, hc4, hg4⟩
  have B4 := belG B3 hg4 hg
  clear hc hc3 hg3 hg4 hb2 B3
  go_wp2_with fail
  refine (l1Size_any A n cp hn 24 w4).mono ?_
  rintro e w5 ⟨m, rfl, hm, rfl⟩
  go_wp2_with fail
  refine (l19Some_any g A n cp bs (by omega) m (by omega) w4 hc4).mono ?_
  rintro e w6 ⟨v, rfl, St⟩
  have B6 := Lib.hid (St.bel B4 hg)
  obtain ⟨ps, his, hsz, _⟩ := St.read (by omega)
  have His := Lib.hid his
  clear St his hc4
  go_wp2
  refine bodyPost_ret (v := .tuple #[v, .string s, .int .i64 i]) (by simp [results, Tryz.results5, go_sem]) rfl ⟨v, s, i, ps, rfl, hs, His.out, hsz, B6.out⟩

set_option maxRecDepth 100000 in
set_option maxHeartbeats 4000000 in
theorem drawDpDrop_any (A : Option Addr) (n cp : Nat) (bs : List UInt8) (hn : n ≤ 9223372036854775000) (w : World) (hr : Reads w w.heap.size 1 A n (B8 bs)) :
    Calls Tryz.prog 11 #[.slice A n cp] w fun e w' => ∃ (v : Value) (s : ByteArray) (ps : List (List EntD)), e = .returned (.tuple #[v, .string s]) ∧ s.size ≤ 25 ∧ IsSS w' v ps ∧ szSS ps ≤ 1048576 ∧ Below w.heap.size w w' := by
  go_enter Tryz.func11, Tryz.ntmps11
  go_wp2_with fail
  refine (l1New_any A n cp bs (by omega) w hr).mono ?_
  rintro e w2 ⟨g, rfl, hg, hc, hb2⟩
  clear hr
  go_wp2_with fail
  refine (l4Name_any g A n cp bs (by omega) w2 hc).mono ?_
  rintro e w3 ⟨s, rfl, hs, hc3, hg3⟩
  have B4 := belG hb2 hg3 hg
  clear hc hg3 hb2
  go_wp2_with fail
  refine (l1Size_any A n cp hn 24 w3).mono ?_
  rintro e w5 ⟨m, rfl, hm, rfl⟩
  go_wp2_with fail
  refine (l19Some_any g A n cp bs (by omega) m (by omega) w3 hc3).mono ?_
  rintro e w6 ⟨v, rfl, St⟩
  have B6 := Lib.hid (St.bel B4 hg)
  obtain ⟨ps, his, hsz, hnm⟩ := St.read (by omega)
  have His := Lib.hid his
  have hcu := Lib.hid St.cu
  have HSt := Lib.hid St
  have hf := dp_flat hsz
  have hn' := dp_len hsz
  obtain ⟨A1, c1, rfl, hp⟩ := his
  have hN := Lib.hid (names_pgL hnm)
  clear St hc3
  go_wp2_with fail
  refine (pgList_spec A1 _ c1 ps hf hn' w6 hp).mono ?_
  rintro e w7 ⟨v1, rfl, own1, hb7⟩
  obtain ⟨A2, c2, rfl, _, _, hr1⟩ := own_vals own1
  have His7 := Lib.hid (His.out.next hb7)
  have B7 := Lib.hid (belN B6.out hb7)
  have hc7 := Lib.hid (hcu.out.below hb7)
  have hlo := own_vals own1
  have Own1 := Lib.hid own1
  have hgl := hcu.out.lt
  have St7 := Lib.hid (HSt.out.step hc7.out (gb_new hb7))
  clear hp His hcu HSt
  by_cases hl : (pgL ps).length = 0
  · have q0 : ¬ (((pgL ps).length : Int) > 0) := by omega
    have q1 : ¬ ((0 : Int) < ((pgL ps).length : Int)) := by omega
    have q2 : ¬ (0 < (pgL ps).length) := by omega
    clear own1 hr1 hlo
    go_wp2
    refine bodyPost_ret (v := .tuple #[.slice A1 ps.length c1, .string s]) (by simp [results, Tryz.results11, go_sem]) rfl ⟨_, s, ps, rfl, hs, His7.out, hsz, B7.out⟩
  · have q0 : (((pgL ps).length : Int) > 0) := by omega
    have q1 : ((0 : Int) < ((pgL ps).length : Int)) := by omega
    have q2 : (0 < (pgL ps).length) := by omega
    have hpl := dp_pgL hsz
    clear hlo hl
    go_wp2_with fail
    refine (l1Once_any g A n cp bs (by omega) 3 (by omega) w7 hc7.out).mono ?_
    rintro e w8 ⟨b, rfl, hc8, hg8⟩
    have B8 := Lib.hid (belG B7.out hg8 hg)
    have Own8 := Lib.hid (own_g Own1.out hg8 hgl)
    have St8 := Lib.hid (St7.out.step hc8 hg8)
    clear own1 hr1
    rcases b with _ | _
    · obtain ⟨g2, c3, he⟩ := own_form1 Own8.out q2
      simp only [Value.slice.injEq, true_and] at he
      obtain ⟨rfl, rfl⟩ := he
      obtain ⟨l, hl⟩ : ∃ l, pgL ps = l := ⟨_, rfl⟩
      rw [hl] at Own8 hN q0 q1 q2 hpl ⊢
      clear hl Own1 hf
      go_wp2_with fail
      go_region_held3 (fun w' => ∀ (k : Nat) (h : k < l.length), w'.cell? ⟨g2, k * 4 + 2, none⟩ = some (.string l[k].s)) (first | exact own_names (own_below Own8.out (bel0 w8).drew (Nat.le_refl _)) | exact own_names Own10.out)
        (first
          | (go_at_call 21; refine (l1Below_any g A n cp bs (by omega) (l.length : Nat) (by omega) _ St8.out.cu.drew).mono ?_; rintro e w10 ⟨x, rfl, _, hx, hc10, hg10⟩; obtain ⟨hx0, hx1⟩ := hx q1; obtain ⟨kj, hkj⟩ : ∃ j : Nat, x = (j : Int) := ⟨x.toNat, (Int.toNat_of_nonneg hx0).symm⟩; subst hkj; have hkl : kj < l.length := Int.ofNat_lt.1 hx1; have St10 := Lib.hid ((St8.out.step St8.out.cu.drew (gb_new (bel0 w8).drew)).step hc10 hg10); have Own10 := Lib.hid (own_g (own_below Own8.out (bel0 w8).drew (Nat.le_refl _)) hg10 hgl)))
      have hsn := hN.out _ (List.getElem_mem hkl)
      have B10 := Lib.hid (St10.out.bel B4 hg)
      obtain ⟨ps9, his9, hsz9, _⟩ := St10.out.read (by omega)
      have His9 := Lib.hid his9
      clear his9
      go_wp2
      refine bodyPost_ret (v := .tuple #[.slice A1 ps.length c1, .string l[kj].s]) (by simp [results, Tryz.results11, go_sem]) rfl ⟨_, l[kj].s, ps9, rfl, hsn, His9.out, hsz9, B10.out⟩
    · obtain ⟨ps9, his9, hsz9, _⟩ := St8.out.read (by omega)
      have His9 := Lib.hid his9
      clear his9
      go_wp2
      refine bodyPost_ret (v := .tuple #[.slice A1 ps.length c1, .string s]) (by simp [results, Tryz.results11, go_sem]) rfl ⟨_, s, ps9, rfl, hs, His9.out, hsz9, B8.out⟩

end Go.Proofs.YtbchbmcphbeikaaGreatDoor
