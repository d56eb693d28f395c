/- How deep an inode is: the reference. -/
import Derived.Test.YtijfjgenbdbafaaDoorDeep
namespace Go.Proofs.YtijfjgenbdbafaaDoor
open Go Go.RowKit

theorem hasE_succ {a : Int} {es : List EntD} {k : Nat} (hk : k < es.length) : hasE a (es.take (k + 1)) = (hasE a (es.take k) || (es[k].d == a)) := by
  unfold hasE; rw [List.take_succ_eq_append_getElem hk, List.any_append]; simp
/-- What l26Deep has so far: of the first so many inodes, and of the first so many entries of the next. -/
def bestD (f h : Bool) (D t : Int) : Int := if (f || h) = true then (if h = true then min D (1 + t) else D) else -1
theorem bestD_hit {f h : Bool} {D t q : Int} (hD : 0 ≤ D ∧ D ≤ 16) (ht : 0 ≤ t ∧ t ≤ 15) (hf : f = false → D = 16) (hq : q = bestD f h D t) : bestD f true D t = if q < 0 ∨ t + 1 < q then t + 1 else q := by
  subst hq
  unfold bestD
  cases f <;> cases h <;> simp
  · have := hf rfl; omega
  · have := hf rfl; omega
  · first | omega | (split <;> omega)
  · first | omega | (split <;> omega)
theorem bestD_end {xs : List InoD} {T : Int → Int} {a : Int} {k : Nat} (hk : k < xs.length) : bestD (fndI xs a k) (hasE a xs[k].es) (deepI xs T a k) (T xs[k].id) = if fndI xs a (k + 1) = true then deepI xs T a (k + 1) else -1 := by
  rw [fndI_succ hk, deepI_succ hk]
  unfold bestD; rfl

set_option maxHeartbeats 1000000 in
theorem l26Deep_one (v : Value) (V : VolD) (S : Int) (w : World) (h : IsVol w v V) :
    Calls Tryd.prog 104 #[v, .int .i64 1, .int .i64 S] w fun e w' => e = .returned (.int .i64 0) ∧ Below w.heap.size w w' := by
  obtain ⟨A, c, rfl, _⟩ := h
  go_enter Tryd.func104, Tryd.ntmps104
  go_wp2
  go_ret
  exact ⟨rfl, belA (bel0 w) _⟩

set_option maxRecDepth 100000 in
set_option maxHeartbeats 4000000 in
theorem l26Deep_gen (v : Value) (V : VolD) (hn : V.xs.length ≤ 10000000) (hz : ∀ x ∈ V.xs, x.es.length ≤ 10000000) (T : Int → Int) (hT : ∀ i, 0 ≤ T i ∧ T i ≤ 15) (a : Int) (ha : a ≠ 1) (S : Int) (hS : 0 < S) (hS2 : S ≤ 16) (w : World) (h : IsVol w v V)
    (hcall : ∀ x ∈ V.xs, hasE a x.es = true → ∀ W, IsVol W v V → Calls Tryd.prog 104 #[v, .int .i64 x.id, .int .i64 (S - 1)] W fun e w' => e = .returned (.int .i64 (T x.id)) ∧ Below W.heap.size W w') :
    Calls Tryd.prog 104 #[v, .int .i64 a, .int .i64 S] w fun e w' => e = .returned (.int .i64 (if fndI V.xs a V.xs.length = true then deepI V.xs T a V.xs.length else -1)) ∧ Below w.heap.size w w' := by
  have hv := Lib.hid h
  have Hcall := Lib.hid hcall
  have Hz := Lib.hid hz
  have HTb := Lib.hid hT
  have ha1 : (a == 1) = false := by simpa using ha
  obtain ⟨A, c, rfl, h⟩ := h
  obtain ⟨nx, xs⟩ := V
  simp only at h hn Hcall Hz ⊢
  have H := Lib.hid h
  clear h hcall hz hT ha
  obtain ⟨n, hn'⟩ : ∃ n, xs.length = n := ⟨_, rfl⟩
  have HL := Lib.hid hn'
  simp only [hn'] at H hn hv Hcall ⊢
  clear hn'
  obtain ⟨R, hR⟩ : ∃ R, (if fndI xs a n = true then deepI xs T a n else -1) = R := ⟨_, rfl⟩
  have HR := Lib.hid hR
  rw [hR]
  clear hR
  have hw1 : IntKind.i64.wrap (S - 1) = S - 1 := IntWalk.i64_in _ (by omega)
  obtain ⟨W1, hW1⟩ : ∃ W1, w.alloc (.cells #[.int .i64 nx, .slice A n c] 70) = W1 := ⟨_, rfl⟩
  have B1 : Below w.heap.size w W1 := by rw [← hW1]; exact belA (bel0 w) _
  have hV : Blk W1 w.heap.size 70 #[.int .i64 nx, .slice A n c] := by rw [← hW1]; exact Blk.new' _ _ _ _ rfl
  have HW1 := Lib.hid hW1
  have V0 := Lib.hid (hV.get 0 rfl)
  have V1 := Lib.hid (hV.get 1 rfl)
  have H1 := Lib.hid ((H.out.below B1).more B1.size)
  clear hW1 hV
  go_enter Tryd.func104, Tryd.ntmps104
  go_wp2
  rw [HW1.out]
  go_loopw [7, 8] (fun m i wr => ∃ (k : Nat) (q : Int), k ≤ n ∧ i = .int .i64 k ∧ m = .int .i64 q ∧ Hid (q = if fndI xs a k = true then deepI xs T a k else -1) ∧ Below W1.heap.size W1 wr)
    (fun _ i _ => n - (intOf i).toNat)
  case atStart => exact ⟨0, -1, by omega, rfl, rfl, rfl, bel0 W1⟩
  case round =>
    obtain ⟨k, q, hk, rfl, rfl, hq, hbel⟩ := hrel
    have hDb := Lib.hid (deepI_bd (xs := xs) (a := a) HTb.out k)
    have v1 := keep1 hbel V1.out (Nat.le_refl _)
    rename World => wo
    by_cases hlt : k < n
    · have hkx : k < xs.length := by have := HL.out; omega
      have q0 : (0 : Int) ≤ ↑k := by omega
      have q1 : (↑k : Int) < ↑n := by omega
      have hzk := Hz.out _ (List.getElem_mem hkx)
      have hck := Lib.hid (Hcall.out _ (List.getElem_mem hkx))
      have htb := HTb.out xs[k].id
      have Hend := Lib.hid (bestD_end (T := T) (a := a) hkx)
      obtain ⟨t, ht⟩ : ∃ t, T xs[k].id = t := ⟨_, rfl⟩
      obtain ⟨D, hD⟩ : ∃ D, deepI xs T a k = D := ⟨_, rfl⟩
      obtain ⟨f, hf⟩ : ∃ f, fndI xs a k = f := ⟨_, rfl⟩
      have Hnf := Lib.hid (show f = false → D = 16 from fun h => by rw [← hD]; exact deepI_none k (by rw [hf, h]))
      rw [ht, hD, hf] at Hend
      rw [hf, hD] at hq
      rw [hD] at hDb
      rw [ht] at hck htb
      obtain ⟨htb0, htb1⟩ := htb
      clear ht hD hf
      go_wp2
      clear v1
      go_loopw [7, 9] (fun m i wr => ∃ (j : Nat) (p : Int), j ≤ xs[k].es.length ∧ i = .int .i64 j ∧ m = .int .i64 p ∧ Hid (p = bestD f (hasE a (xs[k].es.take j)) D t) ∧ Below W1.heap.size W1 wr)
        (fun _ i _ => xs[k].es.length - (intOf i).toNat)
      case atStart => exact ⟨0, q, by omega, rfl, rfl, by show _ = _; rw [hq.out]; unfold bestD hasE; cases f <;> simp, hbel⟩
      case round =>
        clear hbel
        obtain ⟨j, p, hj, rfl, rfl, hp, hbel⟩ := hrel
        have v0 := keep1 hbel V0.out (Nat.le_refl _)
        have v1 := keep1 hbel V1.out (Nat.le_refl _)
        obtain ⟨_, b, ob, A', c', rfl, hadb, z0, z1, z2, z3, z4, hrow⟩ := (H1.out.below hbel).at_ hlt
        have hpb : -1 ≤ p ∧ p ≤ 16 := by
          have h1 := hDb.out
          rw [hp.out]; unfold bestD
          split
          · split <;> omega
          · omega
        obtain ⟨hpb0, hpb1⟩ := hpb
        by_cases hlt2 : j < xs[k].es.length
        · obtain ⟨hjx, b2, o2, rfl, hadb2, y0, y1, y2, y3⟩ := reads_ent hrow hlt2
          have q2 : (0 : Int) ≤ ↑j := by omega
          have q3 : (↑j : Int) < ↑xs[k].es.length := by omega
          have Hs := Lib.hid (hasE_succ (a := a) hlt2)
          have Hin := Lib.hid (show xs[k].es[j].d = a → hasE a xs[k].es = true from fun h => hasE_iff.2 ⟨_, List.getElem_mem hlt2, h⟩)
          clear y0 y1 y2 hrow z1 z2 z3
          by_cases he : xs[k].es[j].d = a
          · have he2 : (xs[k].es[j].d != a) = false := by simpa using he
            have hcl := Lib.hid (hck.out (Hin.out he) wr.drew (hv.out.next (belN B1 hbel).drew))
            have Hn := Lib.hid (show bestD f (hasE a (xs[k].es.take (j + 1))) D t = if p < 0 ∨ t + 1 < p then t + 1 else p by
              rw [Hs.out, show (xs[k].es[j].d == a) = true by simpa using he, Bool.or_true]
              exact bestD_hit hDb.out ⟨htb0, htb1⟩ Hnf.out hp.out)
            clear he
            go_wp2_with fail
            go_region_held3 (fun w' => w'.cell? ⟨w.heap.size, 0, none⟩ = some (.int .i64 nx) ∧ w'.cell? ⟨w.heap.size, 1, none⟩ = some (.slice (some ⟨b, ob, none⟩) n c) ∧ w'.cell? ⟨b, ob + k * 5, none⟩ = some (.int .i64 xs[k].id))
              (first | go_keep | (refine ⟨keep1 hb5 ?_, keep1 hb5 ?_, keep1 hb5 ?_⟩ <;> go_keep))
              (first | (go_at_call 104; refine hcl.out.mono ?_; rintro e w5 ⟨rfl, hb5⟩))
            have b5 := hbel.drew.trans (hb5.mono hbel.size)
            clear v0 v1 z0 z4 y3
            have ht0 : (0 : Int) ≤ t := htb0
            by_cases hp0 : p < 0
            · have Hn2 := Lib.hid (Hn.out.trans (if_pos (.inl hp0)))
              go_wp2
              go_roundw
              case rel => exact ⟨j + 1, t + 1, by omega, by go_num, by go_num, Hn2.out.symm, b5⟩
              case measure => simp [intOf]; omega
            · by_cases hp1 : t + 1 < p
              · have Hn2 := Lib.hid (Hn.out.trans (if_pos (.inr hp1)))
                go_wp2
                go_roundw
                case rel => exact ⟨j + 1, t + 1, by omega, by go_num, by go_num, Hn2.out.symm, b5⟩
                case measure => simp [intOf]; omega
              · have Hn2 := Lib.hid (Hn.out.trans (if_neg (fun h => h.elim hp0 hp1)))
                go_wp2
                go_roundw
                case rel => exact ⟨j + 1, p, by omega, by go_num, rfl, Hn2.out.symm, b5⟩
                case measure => simp [intOf]; omega
          · have he2 : (xs[k].es[j].d != a) = true := by simpa using he
            have Hn := Lib.hid (show p = bestD f (hasE a (xs[k].es.take (j + 1))) D t by
              rw [Hs.out, show (xs[k].es[j].d == a) = false by simpa using he, Bool.or_false]; exact hp.out)
            clear he
            go_wp2
            go_roundw
            case rel => exact ⟨j + 1, p, by omega, by go_num, rfl, Hn.out, hbel⟩
            case measure => simp [intOf]; omega
        · have Hn := Lib.hid (show p = if fndI xs a (k + 1) = true then deepI xs T a (k + 1) else -1 by
            rw [← Hend.out, hp.out, List.take_of_length_le (by omega)])
          clear hrow z0 z1 z2 z3
          go_wp2
          go_roundw
          case rel => exact ⟨k + 1, p, by omega, by go_num, rfl, Hn.out, hbel⟩
          case measure => simp [intOf]; omega
    · obtain rfl : k = n := by omega
      go_wp2
      go_ret
      exact ⟨ret_int (hq.out.trans HR.out), belN B1 hbel⟩

theorem l26Deep_dir (v : Value) (V : VolD) (hn : V.xs.length ≤ 10000000) (hz : ∀ x ∈ V.xs, x.es.length ≤ 10000000) (hp : VolP V.nx V.xs) : ∀ (n : Nat) (a S : Int), IsDirI V.xs a → dpt V.xs a = n → (n : Int) ≤ S → S ≤ 16 → ∀ (w : World), IsVol w v V →
    Calls Tryd.prog 104 #[v, .int .i64 a, .int .i64 S] w fun e w' => e = .returned (.int .i64 (n : Int)) ∧ Below w.heap.size w w' := by
  intro n
  induction n with
  | zero =>
    intro a S hd h0 _ _ w h
    by_cases ha : a = 1
    · subst ha; exact l26Deep_one v V S w h
    · obtain ⟨b, _, h1, _⟩ := up_one hp ha hd
      omega
  | succ n ih =>
    intro a S hd h0 hS1 hS2 w h
    by_cases ha : a = 1
    · subst ha; rw [dpt_one hp] at h0; omega
    · obtain ⟨b, hb, h1, hf, hall⟩ := up_one hp ha hd
      have hs := dpt_short hp hb
      refine (l26Deep_gen v V hn hz (fun _ => (n : Int)) (fun _ => ⟨by omega, by omega⟩) a ha S (by omega) hS2 w h fun x hx hh W hW => ?_).mono fun e w' ⟨he, hb'⟩ => ⟨?_, hb'⟩
      · rw [hall x hx hh]
        exact ih b (S - 1) hb (by omega) (by omega) (by omega) W hW
      · rw [he, if_pos hf, deepI_same (d := (n : Int)) ⟨by omega, by omega⟩ (fun _ _ _ => rfl) _ hf]
        congr 2; omega
theorem l26Deep_any (v : Value) (V : VolD) (hn : V.xs.length ≤ 10000000) (hz : ∀ x ∈ V.xs, x.es.length ≤ 10000000) (hp : VolP V.nx V.xs) (a : Int) (hpl : 0 ≤ plc V.xs a) (w : World) (h : IsVol w v V) :
    Calls Tryd.prog 104 #[v, .int .i64 a, .int .i64 16] w fun e w' => e = .returned (.int .i64 (if a = 1 then 0 else deepI V.xs (fun i => (min (dpt V.xs i) 15 : Nat)) a V.xs.length)) ∧ Below w.heap.size w w' := by
  by_cases ha : a = 1
  · subst ha; rw [if_pos rfl]; exact l26Deep_one v V 16 w h
  · rw [if_neg ha]
    have hf : fndI V.xs a V.xs.length = true := fndI_all.2 (has_up hp ha hpl)
    refine (l26Deep_gen v V hn hz _ (dpt_bd V.xs) a ha 16 (by omega) (by omega) w h fun x hx hh W hW => ?_).mono fun e w' ⟨he, hb'⟩ => ⟨by rw [he, if_pos hf], hb'⟩
    have hd := up_is hp hx hh
    have hs := dpt_short hp hd
    rw [show min (dpt V.xs x.id) 15 = dpt V.xs x.id by omega]
    exact l26Deep_dir v V hn hz hp _ x.id 15 hd rfl (by omega) (by omega) W hW

set_option maxRecDepth 100000 in
set_option maxHeartbeats 2000000 in
theorem deepOf_spec (v : Value) (V : VolD) (sm : szV V ≤ 1048576) (a : Int) (w : World) (hC : IsVolC w v V) :
    Calls Tryd.prog 50 #[v, .int .i64 a] w fun e w' => e = .returned (.int .i64 (deepP V a)) ∧ Below w.heap.size w w' := by
  have Hok := Lib.hid (fun W hW => volOk_spec v V sm W hW)
  have Hat := Lib.hid (fun W hW => l6At_any v V (v_len sm) a W hW)
  have Hd := Lib.hid (fun hp hpl W hW => l26Deep_any v V (v_len sm) (v_rows sm) hp a hpl W hW)
  have hv := Lib.hid hC
  have h := hC.is
  obtain ⟨A, c, rfl, h⟩ := h
  obtain ⟨nx, xs⟩ := V
  simp only at Hok Hat Hd ⊢
  clear h sm hC
  obtain ⟨n, hn'⟩ : ∃ n, xs.length = n := ⟨_, rfl⟩
  have HL := Lib.hid hn'
  simp only [hn'] at Hok Hat Hd hv ⊢
  clear hn'
  obtain ⟨W1, hW1⟩ : ∃ W1, w.alloc (.cells #[.int .i64 nx, .slice A n c] 70) = W1 := ⟨_, rfl⟩
  have B1 : Below w.heap.size w W1 := by rw [← hW1]; exact belA (bel0 w) _
  have hV : Blk W1 w.heap.size 70 #[.int .i64 nx, .slice A n c] := by rw [← hW1]; exact Blk.new' _ _ _ _ rfl
  have HW1 := Lib.hid hW1
  have V0 := Lib.hid (hV.get 0 rfl)
  have V1 := Lib.hid (hV.get 1 rfl)
  clear hW1 hV
  rcases hok : volOkB nx xs with _ | _
  · have Hf := Lib.hid (show deepP ⟨nx, xs⟩ a = -1 by unfold deepP; simp [hok])
    go_enter Tryd.func50, Tryd.ntmps50
    go_wp2_with fail
    rw [HW1.out]
    refine (Hok.out W1 (hv.out.next B1)).mono ?_
    rintro e w2 ⟨rfl, hb2⟩
    rw [hok]
    go_wp2
    go_ret
    exact ⟨ret_int Hf.out.symm, belN B1 hb2⟩
  · have hp := volOkB_iff.1 hok
    obtain ⟨p, hpl⟩ : ∃ p, plc xs a = p := ⟨_, rfl⟩
    have Hpl := Lib.hid hpl
    simp only [hpl] at Hat
    have Hd2 := Lib.hid (Hd.out hp)
    clear hp hpl
    have Hok2 := Lib.hid hok
    clear hok
    go_enter Tryd.func50, Tryd.ntmps50
    go_wp2_with fail
    rw [HW1.out]
    refine (Hok.out W1 (hv.out.next B1)).mono ?_
    rintro e w2 ⟨rfl, hb2⟩
    rw [Hok2.out]
    have v0 := keep1 hb2 V0.out (Nat.le_refl _)
    have v1 := keep1 hb2 V1.out (Nat.le_refl _)
    go_wp2_with fail
    refine (Hat.out w2 (hv.out.next (belN B1 hb2)).is).mono ?_
    rintro e w3 ⟨rfl, hb3⟩
    have b3 := hb2.trans (hb3.mono hb2.size)
    clear v0 v1
    by_cases hp0 : p < 0
    · have Hf := Lib.hid (show deepP ⟨nx, xs⟩ a = -1 by unfold deepP; rw [if_neg]; simp only; rw [Hpl.out]; omega)
      go_wp2
      go_ret
      exact ⟨ret_int Hf.out.symm, belN B1 b3⟩
    · have Hf := Lib.hid (show deepP ⟨nx, xs⟩ a = (if a = 1 then 0 else deepI xs (fun i => (min (dpt xs i) 15 : Nat)) a n) by
        unfold deepP
        rw [if_pos (show volOkB nx xs = true ∧ 0 ≤ plc xs a from ⟨Hok2.out, by rw [Hpl.out]; omega⟩)]
        simp only; rw [HL.out])
      have v0 := keep1 b3 V0.out (Nat.le_refl _)
      have v1 := keep1 b3 V1.out (Nat.le_refl _)
      go_wp2_with fail
      refine (Hd2.out (by rw [Hpl.out]; omega) w3 (hv.out.next (belN B1 b3)).is).mono ?_
      rintro e w4 ⟨rfl, hb4⟩
      clear v0 v1
      rw [← Hf.out]
      go_wp2
      go_ret
      exact ⟨rfl, belN (belN B1 b3) hb4⟩

end Go.Proofs.YtijfjgenbdbafaaDoor
