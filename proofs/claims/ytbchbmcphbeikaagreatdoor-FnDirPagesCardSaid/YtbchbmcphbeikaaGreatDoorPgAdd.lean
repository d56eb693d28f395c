/- One entry more in pages: the program's PgAdd. -/
import Derived.Test.YtbchbmcphbeikaaGreatDoorCpPg
import Derived.Test.YtbchbmcphbeikaaGreatDoorPgP
import Derived.Test.YtbchbmcphbeikaaGreatDoorRegH
namespace Go.Proofs.YtbchbmcphbeikaaGreatDoor
open Go Go.RowKit

theorem pages_of {w : World} {lo : Nat} {L : List PgD} {v : Value} (h : OwnP w lo L) (hown : w.ownsRow lo 30 1 v L.length (PV L)) :
    ∃ A c, v = .slice A L.length c ∧ PgFr w lo A L.length (L.map PgD.con) := by
  rcases Nat.eq_zero_or_pos L.length with h0 | h0
  · obtain ⟨A, c, rfl, _, _, hr⟩ := own_vals hown
    have : L = [] := List.eq_nil_of_length_eq_zero h0
    subst this
    refine ⟨A, c, rfl, [], hr, rfl, fun ad e => ?_, fun i hi => by simp at hi⟩
    rcases hown.2 with ⟨h1, _⟩ | ⟨g, cap, cur, h1, hb, _⟩
    · injection h1 with h1; rw [h1] at e; cases e
    · injection h1 with h1; rw [h1] at e; injection e with e; subst e; exact hb
  · obtain ⟨g, c, rfl⟩ := own_form1 hown h0
    exact ⟨_, c, rfl, h.pages hown⟩
theorem ok_small {ps : List (List EntD)} (h : okPB ps = true) : ps.length ≤ 8 ∧ (∀ l ∈ ps, 1 ≤ l.length ∧ l.length ≤ 4) ∧ ps.flatten.length ≤ 10000000 := by
  obtain ⟨h1, h2, _⟩ := okPB_iff.1 h
  have h3 : ∀ l ∈ ps, 1 ≤ l.length ∧ l.length ≤ 4 := fun l hl => by
    have := h2 l hl
    unfold pgB at this
    rw [Bool.and_eq_true] at this
    have := inI_true.1 this.1
    omega
  refine ⟨h1, h3, ?_⟩
  have : ∀ qs : List (List EntD), (∀ l ∈ qs, l.length ≤ 4) → qs.flatten.length ≤ 4 * qs.length := by
    intro qs
    induction qs with
    | nil => intro _; simp
    | cons a qs ih =>
      intro h
      have h1 := h a (by simp)
      have h2 := ih (fun l hl => h l (by simp [hl]))
      simp only [List.flatten_cons, List.length_append, List.length_cons]
      omega
  have := this ps (fun l hl => (h3 l hl).2)
  omega
theorem pages_one (w : World) (eh ei : Int) (es : ByteArray) (ed : Int) :
    PgFr ((w.alloc (.cells #[.int .i64 eh, .int .i64 ei, .string es, .int .i64 ed] 40)).alloc (.cells #[.slice (some ⟨w.heap.size, 0, none⟩) 1 1] 30)) w.heap.size (some ⟨w.heap.size + 1, 0, none⟩) 1 [[⟨eh, ei, es, ed⟩]] := by
  have h1 : Blk (w.alloc (.cells #[.int .i64 eh, .int .i64 ei, .string es, .int .i64 ed] 40)) w.heap.size 40 #[.int .i64 eh, .int .i64 ei, .string es, .int .i64 ed] := Blk.new' _ _ _ _ rfl
  have h2 : Blk ((w.alloc (.cells #[.int .i64 eh, .int .i64 ei, .string es, .int .i64 ed] 40)).alloc (.cells #[.slice (some ⟨w.heap.size, 0, none⟩) 1 1] 30)) (w.heap.size + 1) 30 #[.slice (some ⟨w.heap.size, 0, none⟩) 1 1] := Blk.new' _ _ _ _ (by simp)
  refine ⟨_, reads_blk h2 1 1 rfl, rfl, fun ad e => by injection e with e; subst e; exact Nat.le_succ _, fun i hi => ?_⟩
  have hi0 : i = 0 := by simpa using hi
  subst hi0
  exact ⟨some ⟨w.heap.size, 0, none⟩, 1, rfl, reads_blk (h1.alloc _) 4 1 rfl, fun ad e => by injection e with e; subst e; exact Nat.le_refl _⟩
/-- A page of a fresh copy. -/
theorem pg_at {w : World} {lo : Nat} {L : List PgD} {ps : List (List EntD)} (h : OwnP w lo L) (hcon : L.map PgD.con = ps) (hfull : ∀ p ∈ L, full p) {j : Nat} (hj : j < ps.length) (hjL : j < L.length) :
    L[j].val = .slice (some ⟨L[j].g, 0, none⟩) ps[j].length L[j].c ∧ L[j].xs = ps[j] ∧ L[j].n = ps[j].length ∧ L[j].k = L[j].c ∧ w.ownsRow lo 40 4 (.slice (some ⟨L[j].g, 0, none⟩) ps[j].length L[j].c) ps[j].length (ES ps[j]) := by
  have hf := hfull _ (List.getElem_mem hjL)
  have hx : L[j].xs = ps[j] := by
    have h1 : (L.map PgD.con)[j]'(by simpa using hjL) = ps[j] := by congr 1
    rw [List.getElem_map, full_con hf] at h1
    exact h1
  have hn : L[j].n = ps[j].length := by rw [hf.1, hx]
  have ho := (h.1 _ (List.getElem_mem hjL)).1
  rw [hx] at ho
  exact ⟨by unfold PgD.val; rw [hn, hf.2], hx, hn, hf.2, ho⟩
/-- What PgAdd leaves. -/
def AddPost (w : World) (ps : List (List EntD)) (e : EntD) (r : Ending) (w' : World) : Prop :=
  ∃ A m c ps' b, r = .returned (.tuple #[.slice A m c, .bool b]) ∧ addPg ps e = (ps', b) ∧ PgFr w' w.heap.size A m ps' ∧ Below w.heap.size w w'

set_option maxRecDepth 100000 in
set_option maxHeartbeats 16000000 in
theorem pgAdd_impl (A : Option Addr) (n c : Nat) (ps : List (List EntD)) (eh ei : Int) (es : ByteArray) (ed : Int) (hok : okPB ps = true) (w : World) (hr : PagesAt w w.heap.size A n ps) :
    Calls Tryz.prog 29 #[.slice A n c, .agg #[.int .i64 eh, .int .i64 ei, .string es, .int .i64 ed]] w fun r w' => AddPost w ps ⟨eh, ei, es, ed⟩ r w' := by
  have hl := hr.len
  obtain ⟨h8, hz4, hz⟩ := ok_small hok
  have Hp := Lib.hid (fun W (hb : Below w.heap.size w W) => (hr.below hb).more hb.size)
  clear hr
  obtain ⟨W1, hW1⟩ : ∃ W, w.alloc (.cells #[.int .i64 eh, .int .i64 ei, .string es, .int .i64 ed] 40) = W := ⟨_, rfl⟩
  have O1 : Blk W1 w.heap.size 40 #[.int .i64 eh, .int .i64 ei, .string es, .int .i64 ed] := by rw [← hW1]; exact Blk.new' _ _ _ _ rfl
  have B1 : Below w.heap.size w W1 := by rw [← hW1]; exact belA (bel0 _) _
  have HW1 := Lib.hid hW1
  clear hW1
  go_enter Tryz.func29, Tryz.ntmps29
  go_wp2_with fail
  rw [HW1.out]
  refine (pagesOk_impl A n c ps hz (by omega) W1 (Hp.out _ B1)).mono ?_
  rintro r w2 ⟨rfl, hb2⟩
  rw [hok]
  have B2 := belN B1 hb2
  have O2 := O1.below hb2 O1.lt
  clear B1 O1 hb2
  have x0 := O2.get (x := .int .i64 eh) 0 rfl
  have x1 := O2.get (x := .int .i64 ei) 1 rfl
  have lO := O2.lt
  go_wp2_with fail
  clear x0 x1 lO
  refine (pgFind_impl A n c ps eh ei hz (by omega) w2 (Hp.out _ B2)).mono ?_
  rintro r w3 ⟨rfl, hb3⟩
  have B3 := belN B2 hb3
  have O3 := O2.below hb3 O2.lt
  clear B2 O2 hb3
  obtain ⟨E, f, hf⟩ : ∃ E f, fndP ps eh ei = (E, f) := ⟨_, _, rfl⟩
  rw [hf]
  simp only
  obtain ⟨W4, hW4⟩ : ∃ W, w3.alloc (.cells #[.int .i64 E.h, .int .i64 E.i, .string E.s, .int .i64 E.d] 40) = W := ⟨_, rfl⟩
  have O4 : Blk W4 w.heap.size 40 #[.int .i64 eh, .int .i64 ei, .string es, .int .i64 ed] := by rw [← hW4]; exact O3.alloc _
  have B4 : Below w.heap.size w W4 := by rw [← hW4]; exact belA B3 _
  go_upto_region 4 with fail
  try rw [hW4]
  clear hW4 B3 O3
  cases f
  case true =>
    have HA := Lib.hid (addPg_found (ps := ps) (e := ⟨eh, ei, es, ed⟩) (by simp only [hf]))
    go_wp2_with fail
    refine (copyPages_impl A n c ps (by omega) (fun l hl => by have := hz4 l hl; omega) W4 (Hp.out _ B4)).mono ?_
    rintro r w5 ⟨v, L, rfl, hcon, _, HO, hown, hb5⟩
    obtain ⟨A5, c5, rfl, hpg⟩ := pages_of HO hown
    rw [hcon] at hpg
    have HPG := Lib.hid hpg
    have B5 := belN B4 hb5
    clear HO hown hpg
    go_wp2
    refine bodyPost_ret (v := .tuple #[.slice A5 L.length c5, .bool false]) (by simp [results, Tryz.results29, go_sem]) rfl ⟨A5, L.length, c5, ps, false, rfl, HA.out, HPG.out.mono B4.size, B5⟩
  case false =>
    have hf2 : (fndP ps eh ei).2 = false := by rw [hf]
    go_wp2_with fail
    refine (copyPages_impl A n c ps (by omega) (fun l hl => by have := hz4 l hl; omega) W4 (Hp.out _ B4)).mono ?_
    rintro r w5 ⟨v, L, rfl, hcon, hfull, hO, hown, hb5⟩
    have B5 := belN B4 hb5
    have O5 := O4.below hb5 O4.lt
    have hLl : L.length = ps.length := by rw [← hcon, List.length_map]
    by_cases h0 : ps.length = 0
    · have HA := Lib.hid (addPg_nil (ps := ps) (e := ⟨eh, ei, es, ed⟩) hf2 h0)
      obtain ⟨A5, c5, rfl, _⟩ := pages_of hO hown
      rw [h0] at hLl
      rw [hLl]
      have x0 := O5.get (x := .int .i64 eh) 0 rfl
      have x1 := O5.get (x := .int .i64 ei) 1 rfl
      have x2 := O5.get (x := .string es) 2 rfl
      have x3 := O5.get (x := .int .i64 ed) 3 rfl
      have lO := O5.lt
      have R1 : Blk (w5.alloc (.cells #[.int .i64 eh, .int .i64 ei, .string es, .int .i64 ed] 40)) w5.heap.size 40 #[.int .i64 eh, .int .i64 ei, .string es, .int .i64 ed] := Blk.new' _ _ _ _ rfl
      clear hown hO hcon hfull Hp O4 B4 hb5
      go_wp2
      refine bodyPost_ret (v := .tuple #[.slice (some ⟨w5.heap.size + 1, 0, none⟩) 1 1, .bool true]) (by simp [results, Tryz.results29, go_sem]) rfl ⟨_, 1, 1, _, true, rfl, HA.out, (pages_one w5 eh ei es ed).mono B5.size, belA (belA B5 _) _⟩
    · have hN : L.length = n := hLl.trans hl
      obtain ⟨g0, c0, rfl⟩ := own_form1 hown (by omega)
      rw [hN] at hown
      rw [hN]
      have HO := Lib.hid hO
      have Own := Lib.hid hown
      have hg0 := (own_some hown).1
      have N0 : ((n : Int) == 0) = false := by simp; omega
      have O4l := O4.lt
      clear hown hO O4 B4 hb5
      go_wp2
      go_loopw [9, 39] (fun k i wr => ∃ j : Nat, i = .int .i64 j ∧ j ≤ n ∧ k = .int .i64 (kAt ⟨eh, ei, es, ed⟩ ps j : Nat) ∧ Below w5.heap.size w5 wr) (fun _ i _ => n - (intOf i).toNat)
      case atStart => exact ⟨0, rfl, by omega, rfl, bel0 _⟩
      case round =>
        obtain ⟨j, rfl, hjN, rfl, hbel⟩ := hrel
        by_cases hlt : j < n
        · have q0 : (0 : Int) ≤ (j : Int) := by omega
          have q1 : (j : Int) < (n : Int) := by omega
          obtain ⟨hv, _, _, _, ho⟩ := pg_at (HO.out.bl hbel) hcon hfull (show j < ps.length by omega) (show j < L.length by omega)
          have y0 := (own_below Own.out hbel (Nat.le_refl _)).cellAt j (by omega)
          rw [PV_get L j (by omega), hv] at y0
          have hzl := hz4 _ (List.getElem_mem (show j < ps.length by omega))
          have hkk : kAt ⟨eh, ei, es, ed⟩ ps (j + 1) = cond (behB ⟨eh, ei, es, ed⟩ (fstE (ps.getD j [])).h (fstE (ps.getD j [])).i) j (kAt ⟨eh, ei, es, ed⟩ ps j) := rfl
          rw [show ps.getD j [] = ps[j]'(by omega) by simp [List.getD, show j < ps.length by omega]] at hkk
          obtain ⟨l, hll⟩ : ∃ l, ps[j]'(by omega) = l := ⟨_, rfl⟩
          rw [hll] at ho y0 hzl hkk
          obtain ⟨gj, hgj⟩ : ∃ g, L[j].g = g := ⟨_, rfl⟩
          obtain ⟨cj, hcj⟩ : ∃ g, L[j].c = g := ⟨_, rfl⟩
          rw [hgj, hcj] at ho y0
          clear hv hll hgj hcj
          obtain ⟨hk0, b, o, hbo, _, z0, z1, _, _⟩ := reads_ent (Reads.of_own ho) (show 0 < l.length by omega)
          simp only [Option.some.injEq, Addr.mk.injEq, and_true] at hbo
          obtain ⟨rfl, rfl⟩ := hbo
          simp only [Nat.zero_mul, Nat.add_zero, Nat.zero_add] at z0 z1
          rw [show fstE l = l[0] by unfold fstE; simp [List.getD, hk0]] at hkk
          obtain ⟨fh, hfh⟩ : ∃ x, l[0].h = x := ⟨_, rfl⟩
          obtain ⟨fi, hfi⟩ : ∃ x, l[0].i = x := ⟨_, rfl⟩
          rw [hfh] at z0 hkk
          rw [hfi] at z1 hkk
          have ll0 : ((l.length : Nat) : Int) > 0 := by omega
          have O6 := O5.below hbel O5.lt
          have x0 := O6.get (x := .int .i64 eh) 0 rfl
          have x1 := O6.get (x := .int .i64 ei) 1 rfl
          have x2 := O6.get (x := .string es) 2 rfl
          have x3 := O6.get (x := .int .i64 ed) 3 rfl
          clear hfh hfi ho
          rcases hbh : behB ⟨eh, ei, es, ed⟩ fh fi with _ | _
          all_goals
           rw [hbh] at hkk
           go_wp2_with fail
           go_region_held3 (fun w' => w'.cell? ⟨w.heap.size, 0, none⟩ = some (.int .i64 eh) ∧ w'.cell? ⟨w.heap.size, 1, none⟩ = some (.int .i64 ei) ∧ w'.cell? ⟨w.heap.size, 2, none⟩ = some (.string es) ∧ w'.cell? ⟨w.heap.size, 3, none⟩ = some (.int .i64 ed) ∧ w'.cell? ⟨gj, 0, none⟩ = some (.int .i64 fh) ∧ w'.cell? ⟨gj, 1, none⟩ = some (.int .i64 fi))
            (first | go_keep | (refine ⟨keep1 hb10 ?_, keep1 hb10 ?_, keep1 hb10 ?_, keep1 hb10 ?_, keep1 hb10 ?_, keep1 hb10 ?_⟩ <;> go_keep))
            (first
              | (go_at_call 55; refine (isBehind_any ⟨eh, ei, es, ed⟩ _ _ _).mono ?_; rintro e w10 ⟨rfl, hb10⟩))
           have hb11 : Below w5.heap.size w5 w10 := by first | exact belN hbel.drew hb10 | exact belN (below_drewN hbel _) hb10 | exact belN (below_drewN hbel _).drew hb10
           go_wp2
           first
             | exact ⟨⟨j + 1, by go_num, by omega, by rw [hkk]; rfl, hb11⟩, by simp [intOf]; omega⟩
             | (go_roundw; case rel => exact ⟨j + 1, by go_num, by omega, by rw [hkk]; rfl, hb11⟩; case measure => (simp [intOf]; omega))
        · obtain rfl : j = n := by omega
          have hklt := kAt_lt ⟨eh, ei, es, ed⟩ ps j (by omega)
          obtain ⟨k, hk⟩ : ∃ k, kAt ⟨eh, ei, es, ed⟩ ps j = k := ⟨_, rfl⟩
          rw [hk] at hklt ⊢
          have Hk := Lib.hid (show kAt ⟨eh, ei, es, ed⟩ ps ps.length = k by rw [hl]; exact hk)
          have q9 : ¬ ((j : Int) < (j : Int)) := by omega
          clear hk hlt
          obtain ⟨hv, hLx, hLn, hLk, ho⟩ := pg_at (HO.out.bl hbel) hcon hfull (show k < ps.length by omega) (show k < L.length by omega)
          have Y0 := Lib.hid (own_below Own.out hbel (Nat.le_refl _))
          have y0 := Y0.out.cellAt k (by omega)
          rw [PV_get L k (by omega), hv] at y0
          have hzl := hz4 _ (List.getElem_mem (show k < ps.length by omega))
          have hgl : ps.getD k [] = ps[k]'(by omega) := by simp [List.getD, show k < ps.length by omega]
          obtain ⟨l, hll⟩ : ∃ l, ps[k]'(by omega) = l := ⟨_, rfl⟩
          rw [hll] at ho y0 hzl hgl hLx hLn
          obtain ⟨gk, hgk⟩ : ∃ g, L[k].g = g := ⟨_, rfl⟩
          obtain ⟨ck, hck⟩ : ∃ g, L[k].c = g := ⟨_, rfl⟩
          rw [hgk, hck] at ho y0
          have Hv := Lib.hid (show L[k].val = .slice (some ⟨gk, 0, none⟩) l.length ck by rw [hv, hgk, hck, hll])
          have Ho := Lib.hid ho
          have Hgl := Lib.hid hgl
          have Hll := Lib.hid hll
          have Hgk := Lib.hid hgk
          have Hck := Lib.hid hck
          have HLx := Lib.hid hLx
          have HO5 := Lib.hid (HO.out.bl hbel)
          have B6 := belN B5 hbel
          have O6 := O5.below hbel O5.lt
          clear hv hll hgk hck ho hLx hLn hLk hgl HO Own hbel O5
          rename World => w7
          go_wp2
          go_loopw [12] (fun i w6 => ∃ j : Nat, i = .int .i64 j ∧ j ≤ l.length ∧ Hid (∀ (i : Nat) (h : i < l.length), i < j → behB ⟨eh, ei, es, ed⟩ l[i].h l[i].i = true) ∧ Below w7.heap.size w7 w6) (fun i _ => l.length - (intOf i).toNat)
          case atStart => exact ⟨0, rfl, by omega, fun i h hi => by omega, bel0 _⟩
          case round =>
            obtain ⟨t, rfl, htl, Hall, hbel⟩ := hrel
            have Y1 := Lib.hid (own_below Y0.out hbel (Nat.le_refl _))
            have y1 := Y1.out.cellAt k (by omega)
            rw [PV_get L k (by omega), Hv.out] at y1
            have q0 : (0 : Int) ≤ (k : Int) := by omega
            have q1 : (k : Int) < (j : Int) := by omega
            have O7 := O6.below hbel O6.lt
            have x0 := O7.get (x := .int .i64 eh) 0 rfl
            have x1 := O7.get (x := .int .i64 ei) 1 rfl
            have x2 := O7.get (x := .string es) 2 rfl
            have x3 := O7.get (x := .int .i64 ed) 3 rfl
            have ho1 := own_below Ho.out hbel (Nat.le_refl _)
            rcases (show (∃ h : t < l.length, behB ⟨eh, ei, es, ed⟩ l[t].h l[t].i = true) ∨ (∃ h : t < l.length, behB ⟨eh, ei, es, ed⟩ l[t].h l[t].i = false) ∨ t = l.length by
              by_cases h : t < l.length
              · cases hb : behB ⟨eh, ei, es, ed⟩ l[t].h l[t].i with
                | true => exact .inl ⟨h, hb⟩
                | false => exact .inr (.inl ⟨h, hb⟩)
              · exact .inr (.inr (by omega))) with ⟨hlt, hbh⟩ | ⟨hlt, hbh⟩ | hte
            case' inl | inr.inl =>
              obtain ⟨hk0, b, o, hbo, _, z0, z1, _, _⟩ := reads_ent (Reads.of_own ho1) hlt
              simp only [Option.some.injEq, Addr.mk.injEq, and_true] at hbo
              obtain ⟨rfl, rfl⟩ := hbo
              simp only [Nat.zero_add] at z0 z1
              obtain ⟨fh, hfh⟩ : ∃ x, l[t].h = x := ⟨_, rfl⟩
              obtain ⟨fi, hfi⟩ : ∃ x, l[t].i = x := ⟨_, rfl⟩
              rw [hfh] at z0
              rw [hfi] at z1
              have hbx := hbh
              rw [hfh, hfi] at hbx
              have q2 : (0 : Int) ≤ (t : Int) := by omega
              have q3 : (t : Int) < (l.length : Int) := by omega
              clear hfh hfi
              go_wp2_with fail
              go_region_held3 (fun w' => w'.cell? ⟨w.heap.size, 0, none⟩ = some (.int .i64 eh) ∧ w'.cell? ⟨w.heap.size, 1, none⟩ = some (.int .i64 ei) ∧ w'.cell? ⟨w.heap.size, 2, none⟩ = some (.string es) ∧ w'.cell? ⟨w.heap.size, 3, none⟩ = some (.int .i64 ed) ∧ w'.cell? ⟨g0, k, none⟩ = some (.slice (some ⟨gk, 0, none⟩) l.length ck) ∧ w'.cell? ⟨gk, t * 4, none⟩ = some (.int .i64 fh) ∧ w'.cell? ⟨gk, t * 4 + 1, none⟩ = some (.int .i64 fi))
                (first | go_keep | (refine ⟨keep1 hb10 ?_, keep1 hb10 ?_, keep1 hb10 ?_, keep1 hb10 ?_, keep1 hb10 ?_, keep1 hb10 ?_, keep1 hb10 ?_⟩ <;> go_keep))
                (first
                  | (go_at_call 55; refine (isBehind_any ⟨eh, ei, es, ed⟩ _ _ _).mono ?_; rintro e w10 ⟨rfl, hb10⟩; rw [hbx]))
              have hb11 : Below w7.heap.size w7 w10 := by first | exact belN hbel.drew hb10 | exact belN (below_drewN hbel _) hb10 | exact belN (below_drewN hbel _).drew hb10
              clear hb10 z0 z1
            case inl =>
              have Hall2 := Lib.hid (show ∀ (i : Nat) (h : i < l.length), i < t + 1 → behB ⟨eh, ei, es, ed⟩ l[i].h l[i].i = true from fun i h hi => by
                by_cases e : i = t
                · subst e; exact hbh
                · exact Hall.out i h (by omega))
              go_wp2
              first
                | exact ⟨⟨t + 1, by go_num, by omega, Hall2.out, hb11⟩, by simp [intOf]; omega⟩
                | (go_roundw; case rel => exact ⟨t + 1, by go_num, by omega, Hall2.out, hb11⟩; case measure => (simp [intOf]; omega))
            case' inr.inr =>
              have hat := Lib.hid (atL_is ⟨eh, ei, es, ed⟩ l t htl Hall.out (fun h => by omega))
              have q3 : ¬ ((t : Int) < (l.length : Int)) := by omega
              have q4 : ¬ (t < l.length) := by omega
              clear hte
              go_wp2_with fail
              refine wp_region_held_drew (S := fun w' => w'.cell? ⟨g0, k, none⟩ = some (.slice (some ⟨gk, 0, none⟩) l.length ck)) (by kernel_rfl) y1 (fun hHeld => ?_)
              refine wpAnyH_take (i := 0) (oi := ?oi1) (v := ?v1) ?hi1 ?hs1 ?hf1 ?hr1 ?hQ1 ?hy1 ?hS1 ?hrest1
              case hi1 => (conv => lhs; simp only [List.getElem?_toArray, List.getElem?_cons_zero]); try exact rfl
              case hs1 => kernel_rfl
              case hf1 => kernel_rfl
              case hr1 => kernel_rfl
              case hQ1 => exact fun _ _ _ h => h
              case hS1 => assumption
              case hy1 => refine Or.inl ⟨by rfl, ?_⟩; intro w hSw; (try dsimp only at hSw); go_simp; (try with_reducible rfl)
              simp only [Act.put, List.setIfInBounds_toArray, List.set_cons_zero, List.set_cons_succ]
              refine wpAnyH_take (i := 1) (oi := ?oi2) (v := ?v2) ?hi2 ?hs2 ?hf2 ?hr2 ?hQ2 ?hy2 ?hS2 ?hrest2
              case hi2 => (conv => lhs; simp only [List.getElem?_toArray, List.getElem?_cons_zero, List.getElem?_cons_succ]); try exact rfl
              case hs2 => kernel_rfl
              case hf2 => kernel_rfl
              case hr2 => kernel_rfl
              case hQ2 => exact fun _ _ _ h => h
              case hS2 => assumption
              case hy2 => refine Or.inl ⟨by rfl, ?_⟩; intro w hSw; (try dsimp only at hSw); go_simp; (try with_reducible rfl)
              simp only [Act.put, List.setIfInBounds_toArray, List.set_cons_zero, List.set_cons_succ]
              refine wpAnyH_take (i := 2) (oi := ?oi3) (v := ?v3) ?hi3 ?hs3 ?hf3 ?hr3 ?hQ3 ?hy3 ?hS3 ?hrest3
              case hi3 => (conv => lhs; simp only [List.getElem?_toArray, List.getElem?_cons_zero, List.getElem?_cons_succ]); try exact rfl
              case hs3 => kernel_rfl
              case hf3 => kernel_rfl
              case hr3 => kernel_rfl
              case hQ3 => exact fun _ _ _ h => h
              case hS3 => assumption
              case hy3 => refine Or.inl ⟨by rfl, ?_⟩; intro w hSw; (try dsimp only at hSw); go_simp; (try with_reducible rfl)
              simp only [Act.put, List.setIfInBounds_toArray, List.set_cons_zero, List.set_cons_succ]
              refine wpAnyH_take (i := 3) (oi := ?oi4) (v := ?v4) ?hi4 ?hs4 ?hf4 ?hr4 ?hQ4 ?hy4 ?hS4 ?hrest4
              case hi4 => (conv => lhs; simp only [List.getElem?_toArray, List.getElem?_cons_zero, List.getElem?_cons_succ]); try exact rfl
              case hs4 => kernel_rfl
              case hf4 => kernel_rfl
              case hr4 => kernel_rfl
              case hQ4 => exact fun _ _ _ h => h
              case hS4 => assumption
              case hy4 => refine Or.inl ⟨by rfl, ?_⟩; intro w hSw; (try dsimp only at hSw); go_simp; (try with_reducible rfl)
              simp only [Act.put, List.setIfInBounds_toArray, List.set_cons_zero, List.set_cons_succ]
              refine wpAnyH_take (i := 4) (oi := ?oi5) (v := ?v5) ?hi5 ?hs5 ?hf5 ?hr5 ?hQ5 ?hy5 ?hS5 ?hrest5
              case hi5 => (conv => lhs; simp only [List.getElem?_toArray, List.getElem?_cons_zero, List.getElem?_cons_succ]); try exact rfl
              case hs5 => kernel_rfl
              case hf5 => kernel_rfl
              case hr5 => kernel_rfl
              case hQ5 => exact fun _ _ _ h => h
              case hS5 => assumption
              case hy5 => refine Or.inl ⟨by rfl, ?_⟩; intro w hSw; (try dsimp only at hSw); go_simp; (try with_reducible rfl)
              simp only [Act.put, List.setIfInBounds_toArray, List.set_cons_zero, List.set_cons_succ]
              refine wpAnyH_take (i := 5) (oi := ?oi6) (v := ?v6) ?hi6 ?hs6 ?hf6 ?hr6 ?hQ6 ?hy6 ?hS6 ?hrest6
              case hi6 => (conv => lhs; simp only [List.getElem?_toArray, List.getElem?_cons_zero, List.getElem?_cons_succ]); try exact rfl
              case hs6 => kernel_rfl
              case hf6 => kernel_rfl
              case hr6 => kernel_rfl
              case hQ6 => exact fun _ _ _ h => h
              case hS6 => assumption
              case hy6 => refine Or.inl ⟨by rfl, ?_⟩; intro w hSw; (try dsimp only at hSw); go_simp; (try with_reducible rfl)
              simp only [Act.put, List.setIfInBounds_toArray, List.set_cons_zero, List.set_cons_succ]
              refine wpAnyH_take (i := 6) (oi := ?oi7) (v := ?v7) ?hi7 ?hs7 ?hf7 ?hr7 ?hQ7 ?hy7 ?hS7 ?hrest7
              case hi7 => (conv => lhs; simp only [List.getElem?_toArray, List.getElem?_cons_zero, List.getElem?_cons_succ]); try exact rfl
              case hs7 => kernel_rfl
              case hf7 => kernel_rfl
              case hr7 => kernel_rfl
              case hQ7 => exact fun _ _ _ h => h
              case hS7 => assumption
              case hy7 => refine Or.inl ⟨by rfl, ?_⟩; intro w hSw; (try dsimp only at hSw); go_simp; (try with_reducible rfl)
              simp only [Act.put, List.setIfInBounds_toArray, List.set_cons_zero, List.set_cons_succ]
              refine wpAnyH_take (i := 7) (oi := ?oi8) (v := ?v8) ?hi8 ?hs8 ?hf8 ?hr8 ?hQ8 ?hy8 ?hS8 ?hrest8
              case hi8 => (conv => lhs; simp only [List.getElem?_toArray, List.getElem?_cons_zero, List.getElem?_cons_succ]); try exact rfl
              case hs8 => kernel_rfl
              case hf8 => kernel_rfl
              case hr8 => kernel_rfl
              case hQ8 => exact fun _ _ _ h => h
              case hS8 => assumption
              case hy8 => refine Or.inl ⟨by rfl, ?_⟩; intro w hSw; (try dsimp only at hSw); go_simp; (try with_reducible rfl)
              simp only [Act.put, List.setIfInBounds_toArray, List.set_cons_zero, List.set_cons_succ]
              refine wpAnyH_take (i := 8) (oi := ?oi9) (v := undef) ?hi9 ?hs9 ?hf9 ?hr9 ?hQ9 ?hy9 ?hS9 ?hrest9
              case hi9 => (conv => lhs; simp only [List.getElem?_toArray, List.getElem?_cons_zero, List.getElem?_cons_succ]); try exact rfl
              case hs9 => kernel_rfl
              case hf9 => kernel_rfl
              case hr9 => kernel_rfl
              case hQ9 => exact fun _ _ _ h => h
              case hS9 => assumption
              case hy9 => exact Or.inr ⟨by rfl, rfl⟩
              simp only [Act.put, List.setIfInBounds_toArray, List.set_cons_zero, List.set_cons_succ]
              refine wpAnyH_take (i := 9) (oi := ?oi10) (v := undef) ?hi10 ?hs10 ?hf10 ?hr10 ?hQ10 ?hy10 ?hS10 ?hrest10
              case hi10 => (conv => lhs; simp only [List.getElem?_toArray, List.getElem?_cons_zero, List.getElem?_cons_succ]); try exact rfl
              case hs10 => kernel_rfl
              case hf10 => kernel_rfl
              case hr10 => kernel_rfl
              case hQ10 => exact fun _ _ _ h => h
              case hS10 => assumption
              case hy10 => exact Or.inr ⟨by rfl, rfl⟩
              simp only [Act.put, List.setIfInBounds_toArray, List.set_cons_zero, List.set_cons_succ]
              refine wpAnyH_take (i := 10) (oi := ?oi11) (v := undef) ?hi11 ?hs11 ?hf11 ?hr11 ?hQ11 ?hy11 ?hS11 ?hrest11
              case hi11 => (conv => lhs; simp only [List.getElem?_toArray, List.getElem?_cons_zero, List.getElem?_cons_succ]); try exact rfl
              case hs11 => kernel_rfl
              case hf11 => kernel_rfl
              case hr11 => kernel_rfl
              case hQ11 => exact fun _ _ _ h => h
              case hS11 => assumption
              case hy11 => exact Or.inr ⟨by rfl, rfl⟩
              simp only [Act.put, List.setIfInBounds_toArray, List.set_cons_zero, List.set_cons_succ]
              refine wpAnyH_take (i := 11) (oi := ?oi12) (v := undef) ?hi12 ?hs12 ?hf12 ?hr12 ?hQ12 ?hy12 ?hS12 ?hrest12
              case hi12 => (conv => lhs; simp only [List.getElem?_toArray, List.getElem?_cons_zero, List.getElem?_cons_succ]); try exact rfl
              case hs12 => kernel_rfl
              case hf12 => kernel_rfl
              case hr12 => kernel_rfl
              case hQ12 => exact fun _ _ _ h => h
              case hS12 => assumption
              case hy12 => exact Or.inr ⟨by rfl, rfl⟩
              simp only [Act.put, List.setIfInBounds_toArray, List.set_cons_zero, List.set_cons_succ]
              refine wpAnyH_take (i := 12) (oi := ?oi13) (v := undef) ?hi13 ?hs13 ?hf13 ?hr13 ?hQ13 ?hy13 ?hS13 ?hrest13
              case hi13 => (conv => lhs; simp only [List.getElem?_toArray, List.getElem?_cons_zero, List.getElem?_cons_succ]); try exact rfl
              case hs13 => kernel_rfl
              case hf13 => kernel_rfl
              case hr13 => kernel_rfl
              case hQ13 => exact fun _ _ _ h => h
              case hS13 => assumption
              case hy13 => exact Or.inr ⟨by rfl, rfl⟩
              simp only [Act.put, List.setIfInBounds_toArray, List.set_cons_zero, List.set_cons_succ]
              refine wpAnyH_take (i := 13) (oi := ?oi14) (v := undef) ?hi14 ?hs14 ?hf14 ?hr14 ?hQ14 ?hy14 ?hS14 ?hrest14
              case hi14 => (conv => lhs; simp only [List.getElem?_toArray, List.getElem?_cons_zero, List.getElem?_cons_succ]); try exact rfl
              case hs14 => kernel_rfl
              case hf14 => kernel_rfl
              case hr14 => kernel_rfl
              case hQ14 => exact fun _ _ _ h => h
              case hS14 => assumption
              case hy14 => exact Or.inr ⟨by rfl, rfl⟩
              simp only [Act.put, List.setIfInBounds_toArray, List.set_cons_zero, List.set_cons_succ]
              refine wpAnyH_take (i := 14) (oi := ?oi15) (v := undef) ?hi15 ?hs15 ?hf15 ?hr15 ?hQ15 ?hy15 ?hS15 ?hrest15
              case hi15 => (conv => lhs; simp only [List.getElem?_toArray, List.getElem?_cons_zero, List.getElem?_cons_succ]); try exact rfl
              case hs15 => kernel_rfl
              case hf15 => kernel_rfl
              case hr15 => kernel_rfl
              case hQ15 => exact fun _ _ _ h => h
              case hS15 => assumption
              case hy15 => exact Or.inr ⟨by rfl, rfl⟩
              simp only [Act.put, List.setIfInBounds_toArray, List.set_cons_zero, List.set_cons_succ]
              refine wpAnyH_take (i := 15) (oi := ?oi16) (v := undef) ?hi16 ?hs16 ?hf16 ?hr16 ?hQ16 ?hy16 ?hS16 ?hrest16
              case hi16 => (conv => lhs; simp only [List.getElem?_toArray, List.getElem?_cons_zero, List.getElem?_cons_succ]); try exact rfl
              case hs16 => kernel_rfl
              case hf16 => kernel_rfl
              case hr16 => kernel_rfl
              case hQ16 => exact fun _ _ _ h => h
              case hS16 => assumption
              case hy16 => exact Or.inr ⟨by rfl, rfl⟩
              simp only [Act.put, List.setIfInBounds_toArray, List.set_cons_zero, List.set_cons_succ]
              refine wpAnyH_take (i := 16) (oi := ?oi17) (v := undef) ?hi17 ?hs17 ?hf17 ?hr17 ?hQ17 ?hy17 ?hS17 ?hrest17
              case hi17 => (conv => lhs; simp only [List.getElem?_toArray, List.getElem?_cons_zero, List.getElem?_cons_succ]); try exact rfl
              case hs17 => kernel_rfl
              case hf17 => kernel_rfl
              case hr17 => kernel_rfl
              case hQ17 => exact fun _ _ _ h => h
              case hS17 => assumption
              case hy17 => exact Or.inr ⟨by rfl, rfl⟩
              simp only [Act.put, List.setIfInBounds_toArray, List.set_cons_zero, List.set_cons_succ]
              refine wpAnyH_take (i := 17) (oi := ?oi18) (v := undef) ?hi18 ?hs18 ?hf18 ?hr18 ?hQ18 ?hy18 ?hS18 ?hrest18
              case hi18 => (conv => lhs; simp only [List.getElem?_toArray, List.getElem?_cons_zero, List.getElem?_cons_succ]); try exact rfl
              case hs18 => kernel_rfl
              case hf18 => kernel_rfl
              case hr18 => kernel_rfl
              case hQ18 => exact fun _ _ _ h => h
              case hS18 => assumption
              case hy18 => exact Or.inr ⟨by rfl, rfl⟩
              simp only [Act.put, List.setIfInBounds_toArray, List.set_cons_zero, List.set_cons_succ]
              refine wpAnyH_take (i := 18) (oi := ?oi19) (v := undef) ?hi19 ?hs19 ?hf19 ?hr19 ?hQ19 ?hy19 ?hS19 ?hrest19
              case hi19 => (conv => lhs; simp only [List.getElem?_toArray, List.getElem?_cons_zero, List.getElem?_cons_succ]); try exact rfl
              case hs19 => kernel_rfl
              case hf19 => kernel_rfl
              case hr19 => kernel_rfl
              case hQ19 => exact fun _ _ _ h => h
              case hS19 => assumption
              case hy19 => exact Or.inr ⟨by rfl, rfl⟩
              simp only [Act.put, List.setIfInBounds_toArray, List.set_cons_zero, List.set_cons_succ]
              refine wpAnyH_take (i := 19) (oi := ?oi20) (v := undef) ?hi20 ?hs20 ?hf20 ?hr20 ?hQ20 ?hy20 ?hS20 ?hrest20
              case hi20 => (conv => lhs; simp only [List.getElem?_toArray, List.getElem?_cons_zero, List.getElem?_cons_succ]); try exact rfl
              case hs20 => kernel_rfl
              case hf20 => kernel_rfl
              case hr20 => kernel_rfl
              case hQ20 => exact fun _ _ _ h => h
              case hS20 => assumption
              case hy20 => exact Or.inr ⟨by rfl, rfl⟩
              simp only [Act.put, List.setIfInBounds_toArray, List.set_cons_zero, List.set_cons_succ]
              refine wpAnyH_take (i := 20) (oi := ?oi21) (v := undef) ?hi21 ?hs21 ?hf21 ?hr21 ?hQ21 ?hy21 ?hS21 ?hrest21
              case hi21 => (conv => lhs; simp only [List.getElem?_toArray, List.getElem?_cons_zero, List.getElem?_cons_succ]); try exact rfl
              case hs21 => kernel_rfl
              case hf21 => kernel_rfl
              case hr21 => kernel_rfl
              case hQ21 => exact fun _ _ _ h => h
              case hS21 => assumption
              case hy21 => exact Or.inr ⟨by rfl, rfl⟩
              simp only [Act.put, List.setIfInBounds_toArray, List.set_cons_zero, List.set_cons_succ]
              refine wpAnyH_take (i := 21) (oi := ?oi22) (v := undef) ?hi22 ?hs22 ?hf22 ?hr22 ?hQ22 ?hy22 ?hS22 ?hrest22
              case hi22 => (conv => lhs; simp only [List.getElem?_toArray, List.getElem?_cons_zero, List.getElem?_cons_succ]); try exact rfl
              case hs22 => kernel_rfl
              case hf22 => kernel_rfl
              case hr22 => kernel_rfl
              case hQ22 => exact fun _ _ _ h => h
              case hS22 => assumption
              case hy22 => exact Or.inr ⟨by rfl, rfl⟩
              simp only [Act.put, List.setIfInBounds_toArray, List.set_cons_zero, List.set_cons_succ]
              refine wpAnyH_take (i := 22) (oi := ?oi23) (v := undef) ?hi23 ?hs23 ?hf23 ?hr23 ?hQ23 ?hy23 ?hS23 ?hrest23
              case hi23 => (conv => lhs; simp only [List.getElem?_toArray, List.getElem?_cons_zero, List.getElem?_cons_succ]); try exact rfl
              case hs23 => kernel_rfl
              case hf23 => kernel_rfl
              case hr23 => kernel_rfl
              case hQ23 => exact fun _ _ _ h => h
              case hS23 => assumption
              case hy23 => exact Or.inr ⟨by rfl, rfl⟩
              simp only [Act.put, List.setIfInBounds_toArray, List.set_cons_zero, List.set_cons_succ]
              refine wpAnyH_take (i := 23) (oi := ?oi24) (v := undef) ?hi24 ?hs24 ?hf24 ?hr24 ?hQ24 ?hy24 ?hS24 ?hrest24
              case hi24 => (conv => lhs; simp only [List.getElem?_toArray, List.getElem?_cons_zero, List.getElem?_cons_succ]); try exact rfl
              case hs24 => kernel_rfl
              case hf24 => kernel_rfl
              case hr24 => kernel_rfl
              case hQ24 => exact fun _ _ _ h => h
              case hS24 => assumption
              case hy24 => exact Or.inr ⟨by rfl, rfl⟩
              simp only [Act.put, List.setIfInBounds_toArray, List.set_cons_zero, List.set_cons_succ]
              refine wpAnyH_take (i := 24) (oi := ?oi25) (v := undef) ?hi25 ?hs25 ?hf25 ?hr25 ?hQ25 ?hy25 ?hS25 ?hrest25
              case hi25 => (conv => lhs; simp only [List.getElem?_toArray, List.getElem?_cons_zero, List.getElem?_cons_succ]); try exact rfl
              case hs25 => kernel_rfl
              case hf25 => kernel_rfl
              case hr25 => kernel_rfl
              case hQ25 => exact fun _ _ _ h => h
              case hS25 => assumption
              case hy25 => exact Or.inr ⟨by rfl, rfl⟩
              simp only [Act.put, List.setIfInBounds_toArray, List.set_cons_zero, List.set_cons_succ]
              refine wpAnyH_take (i := 25) (oi := ?oi26) (v := undef) ?hi26 ?hs26 ?hf26 ?hr26 ?hQ26 ?hy26 ?hS26 ?hrest26
              case hi26 => (conv => lhs; simp only [List.getElem?_toArray, List.getElem?_cons_zero, List.getElem?_cons_succ]); try exact rfl
              case hs26 => kernel_rfl
              case hf26 => kernel_rfl
              case hr26 => kernel_rfl
              case hQ26 => exact fun _ _ _ h => h
              case hS26 => assumption
              case hy26 => exact Or.inr ⟨by rfl, rfl⟩
              simp only [Act.put, List.setIfInBounds_toArray, List.set_cons_zero, List.set_cons_succ]
              refine wpAnyH_take (i := 26) (oi := ?oi27) (v := ?v27) ?hi27 ?hs27 ?hf27 ?hr27 ?hQ27 ?hy27 ?hS27 ?hrest27
              case hi27 => (conv => lhs; simp only [List.getElem?_toArray, List.getElem?_cons_zero, List.getElem?_cons_succ]); try exact rfl
              case hs27 => kernel_rfl
              case hf27 => kernel_rfl
              case hr27 => kernel_rfl
              case hQ27 => exact fun _ _ _ h => h
              case hS27 => assumption
              case hy27 => refine Or.inl ⟨by rfl, ?_⟩; intro w hSw; (try dsimp only at hSw); go_simp; (try with_reducible rfl)
              simp only [Act.put, List.setIfInBounds_toArray, List.set_cons_zero, List.set_cons_succ]
              refine wpAnyH_done (by kernel_rfl) ?_ _
              have hb11 : Below w7.heap.size w7 wr.drew := hbel.drew
              generalize wr.drew = w10 at hb11 ⊢
            case' inr.inl =>
              have hat := Lib.hid (atL_is ⟨eh, ei, es, ed⟩ l t htl Hall.out (fun _ => hbh))
              clear hbh hbx hlt q2
            --TAIL (printed by mkpgadd2.py)
            case inr.inl =>
              clear Y1 y1 O7 x0 x1 x2 x3 ho1 Hall hbel q3
              have Y2 := Lib.hid (own_below Y0.out hb11 (Nat.le_refl _))
              have y2 := Y2.out.cellAt k (by omega)
              rw [PV_get L k (by omega), Hv.out] at y2
              have O8 := O6.below hb11 O6.lt
              have OA := O8.drew.alloc (.cells #[.int .i64 eh, .int .i64 ei, .string es, .int .i64 ed] 40)
              have x0 := O8.get (x := .int .i64 eh) 0 rfl
              have x1 := O8.get (x := .int .i64 ei) 1 rfl
              have x2 := O8.get (x := .string es) 2 rfl
              have x3 := O8.get (x := .int .i64 ed) 3 rfl
              have a0 := OA.get (x := .int .i64 eh) 0 rfl
              have a1 := OA.get (x := .int .i64 ei) 1 rfl
              have a2 := OA.get (x := .string es) 2 rfl
              have a3 := OA.get (x := .int .i64 ed) 3 rfl
              have lO := O8.lt
              have Ho2 := Lib.hid (own_below Ho.out hb11 (Nat.le_refl _))
              have HO8 := Lib.hid (HO5.out.bl hb11)
              have l4 : w.heap.size < W4.heap.size := O4l
              have l10 : W4.heap.size ≤ w10.heap.size := by have := (own_some Y2.out).1; have := World.block_lt_of_cell? _ _ y2; simp only at this; omega
              have lg0 : W4.heap.size ≤ g0 := (own_some Y2.out).1
              have ne0 : (some w.heap.size : Option Nat) ≠ some g0 := fun e => by injection e with e; omega
              have ne1 : (some g0 : Option Nat) ≠ some gk := by
                have := pg_ne Y2.out (HO8.out.1 _ (List.getElem_mem (show k < L.length by omega)))
                rw [Hgk.out] at this
                exact fun e => this (by injection e with e; exact e.symm)
              have gk10 : gk < w10.heap.size := by have := (HO8.out.1 _ (List.getElem_mem (show k < L.length by omega))).lt.2; rw [Hgk.out] at this; exact this
              have Y2a := Lib.hid (own_below (w := w10) Y2.out (belA (bel0 _).drew (.cells #[.int .i64 eh, .int .i64 ei, .string es, .int .i64 ed] 40)) (Nat.le_refl _))
              have y2a := Y2a.out.cellAt k (by omega)
              rw [PV_get L k (by omega), Hv.out] at y2a
              have y2b : (w10.alloc (.cells #[.int .i64 eh, .int .i64 ei, .string es, .int .i64 ed] 40)).cell? ⟨g0, k, none⟩ = some (.slice (some ⟨gk, 0, none⟩) l.length ck) := y2a
              have HoA := Lib.hid (own_below (w := w10) Ho2.out (belA (bel0 _).drew (.cells #[.int .i64 eh, .int .i64 ei, .string es, .int .i64 ed] 40)) (Nat.le_refl _))
              have OB : Blk (w10.drew.alloc (.cells #[.int .i64 eh, .int .i64 ei, .string es, .int .i64 ed] 40)) w10.heap.size 40 (⟨eh, ei, es, ed⟩ : EntD).arr := Blk.new' _ _ _ _ rfl
              go_wp2_with fail
              refine wp_region_held_drew (S := fun w' => w'.cell? ⟨w.heap.size, 0, none⟩ = some (.int .i64 eh) ∧ w'.cell? ⟨w.heap.size, 1, none⟩ = some (.int .i64 ei) ∧ w'.cell? ⟨w.heap.size, 2, none⟩ = some (.string es) ∧ w'.cell? ⟨w.heap.size, 3, none⟩ = some (.int .i64 ed)) (by kernel_rfl) ⟨x0, x1, x2, x3⟩ (fun hHeld => ?_)
              refine wpAnyH_take (i := 0) (oi := ?oi201) (v := ?v201) ?hi201 ?hs201 ?hf201 ?hr201 ?hQ201 ?hy201 ?hS201 ?hrest201
              case hi201 => (conv => lhs; simp only [List.getElem?_toArray, List.getElem?_cons_zero]); try exact rfl
              case hs201 => kernel_rfl
              case hf201 => kernel_rfl
              case hr201 => kernel_rfl
              case hQ201 => exact fun _ _ _ h => h
              case hS201 => assumption
              case hy201 => refine Or.inl ⟨by rfl, ?_⟩; intro w hSw; (try dsimp only at hSw); go_simp; (try with_reducible rfl)
              simp only [Act.put, List.setIfInBounds_toArray, List.set_cons_zero, List.set_cons_succ]
              refine wpAnyH_take (i := 1) (oi := ?oi202) (v := ?v202) ?hi202 ?hs202 ?hf202 ?hr202 ?hQ202 ?hy202 ?hS202 ?hrest202
              case hi202 => (conv => lhs; simp only [List.getElem?_toArray, List.getElem?_cons_zero, List.getElem?_cons_succ]); try exact rfl
              case hs202 => kernel_rfl
              case hf202 => kernel_rfl
              case hr202 => kernel_rfl
              case hQ202 => exact fun _ _ _ h => h
              case hS202 => assumption
              case hy202 => refine Or.inl ⟨by rfl, ?_⟩; intro w hSw; (try dsimp only at hSw); go_simp; (try with_reducible rfl)
              simp only [Act.put, List.setIfInBounds_toArray, List.set_cons_zero, List.set_cons_succ]
              refine wpAnyH_take (i := 2) (oi := ?oi203) (v := ?v203) ?hi203 ?hs203 ?hf203 ?hr203 ?hQ203 ?hy203 ?hS203 ?hrest203
              case hi203 => (conv => lhs; simp only [List.getElem?_toArray, List.getElem?_cons_zero, List.getElem?_cons_succ]); try exact rfl
              case hs203 => kernel_rfl
              case hf203 => kernel_rfl
              case hr203 => kernel_rfl
              case hQ203 => exact fun _ _ _ h => h
              case hS203 => assumption
              case hy203 => refine Or.inl ⟨by rfl, ?_⟩; intro w hSw; (try dsimp only at hSw); go_simp; (try with_reducible rfl)
              simp only [Act.put, List.setIfInBounds_toArray, List.set_cons_zero, List.set_cons_succ]
              refine wpAnyH_take (i := 3) (oi := ?oi204) (v := ?v204) ?hi204 ?hs204 ?hf204 ?hr204 ?hQ204 ?hy204 ?hS204 ?hrest204
              case hi204 => (conv => lhs; simp only [List.getElem?_toArray, List.getElem?_cons_zero, List.getElem?_cons_succ]); try exact rfl
              case hs204 => kernel_rfl
              case hf204 => kernel_rfl
              case hr204 => kernel_rfl
              case hQ204 => exact fun _ _ _ h => h
              case hS204 => assumption
              case hy204 => refine Or.inl ⟨by rfl, ?_⟩; intro w hSw; (try dsimp only at hSw); go_simp; (try with_reducible rfl)
              simp only [Act.put, List.setIfInBounds_toArray, List.set_cons_zero, List.set_cons_succ]
              refine wpAnyH_take (i := 4) (oi := ?oi205) (v := ?v205) ?hi205 ?hs205 ?hf205 ?hr205 ?hQ205 ?hy205 ?hS205 ?hrest205
              case hi205 => (conv => lhs; simp only [List.getElem?_toArray, List.getElem?_cons_zero, List.getElem?_cons_succ]); try exact rfl
              case hs205 => kernel_rfl
              case hf205 => kernel_rfl
              case hr205 => kernel_rfl
              case hQ205 => exact fun _ _ _ h => h
              case hS205 => assumption
              case hy205 => refine Or.inl ⟨by rfl, ?_⟩; intro w hSw; (try dsimp only at hSw); go_simp; (try with_reducible rfl)
              simp only [Act.put, List.setIfInBounds_toArray, List.set_cons_zero, List.set_cons_succ]
              refine wpAnyH_take (i := 6) (oi := ?oi206) (v := ?v206) ?hi206 ?hs206 ?hf206 ?hr206 ?hQ206 ?hy206 ?hS206 ?hrest206
              case hi206 => (conv => lhs; simp only [List.getElem?_toArray, List.getElem?_cons_zero, List.getElem?_cons_succ]); try exact rfl
              case hs206 => kernel_rfl
              case hf206 => kernel_rfl
              case hr206 => kernel_rfl
              case hQ206 => exact fun _ _ _ h => h
              case hS206 => assumption
              case hy206 => refine Or.inl ⟨by rfl, ?_⟩; intro w hSw; (try dsimp only at hSw); go_simp; (try with_reducible rfl)
              simp only [Act.put, List.setIfInBounds_toArray, List.set_cons_zero, List.set_cons_succ]
              refine wpAnyH_take (i := 7) (oi := ?oi207) (v := ?v207) ?hi207 ?hs207 ?hf207 ?hr207 ?hQ207 ?hy207 ?hS207 ?hrest207
              case hi207 => (conv => lhs; simp only [List.getElem?_toArray, List.getElem?_cons_zero, List.getElem?_cons_succ]); try exact rfl
              case hs207 => kernel_rfl
              case hf207 => kernel_rfl
              case hr207 => kernel_rfl
              case hQ207 => exact fun _ _ _ h => h
              case hS207 => assumption
              case hy207 => refine Or.inl ⟨by rfl, ?_⟩; intro w hSw; (try dsimp only at hSw); go_simp; (try with_reducible rfl)
              simp only [Act.put, List.setIfInBounds_toArray, List.set_cons_zero, List.set_cons_succ]
              refine wpAnyH_ready (rs := [5, 8]) (by kernel_rfl) (by simp) ?_
              refine AllReadyH.cons (o := ?oi208) ?hi208 (fun K hK => ?_) (AllReadyH.cons (o := ?oi209) ?hi209 (fun K hK => ?_) AllReadyH.nil)
              case hi208 => (conv => lhs; simp only [List.getElem?_toArray, List.getElem?_cons_zero, List.getElem?_cons_succ]); try exact rfl
              case hi209 => (conv => lhs; simp only [List.getElem?_toArray, List.getElem?_cons_zero, List.getElem?_cons_succ]); try exact rfl
              · go_simp
                refine hK.out _ _ hHeld (fun hHeld => ?_)
                clear hK K
                try simp only [Act.put, List.setIfInBounds_toArray, List.set_cons_zero, List.set_cons_succ]
                refine wpAnyH_ready (rs := [8]) (by kernel_rfl) (by simp) ?_
                refine AllReadyH.cons (o := ?oi210) ?hi210 (fun K hK => ?_) AllReadyH.nil
                case hi210 => (conv => lhs; simp only [List.getElem?_toArray, List.getElem?_cons_zero, List.getElem?_cons_succ]); try exact rfl
                go_simp
                refine hK.out _ _ ⟨a0, a1, a2, a3⟩ (fun hHeld210 => ?_)
                clear hK K
                try simp only [Act.put, List.setIfInBounds_toArray, List.set_cons_zero, List.set_cons_succ]
                refine wpAnyH_ready (rs := [9]) (by kernel_rfl) (by simp) ?_
                refine AllReadyH.cons (o := ?oi211) ?hi211 (fun K hK => ?_) AllReadyH.nil
                case hi211 => (conv => lhs; simp only [List.getElem?_toArray, List.getElem?_cons_zero, List.getElem?_cons_succ]); try exact rfl
                go_simp
                go_at_call 56
                refine (insG_any W4.heap.size l.length t _ l ⟨eh, ei, es, ed⟩ w10.heap.size (w10.drew.alloc (.cells #[.int .i64 eh, .int .i64 ei, .string es, .int .i64 ed] 40)) (by omega) htl rfl (by simp; omega) HoA.out OB (fun e => by have := (Ho2.out.lt _ e).2; omega)).mono ?_
                rintro e w12 ⟨v', rfl, own12, hB12, hG12, hbk12⟩
                obtain ⟨gq, cq, rfl⟩ := own_form1 own12 (by omega)
                have O12 := OA.below hB12 l4
                have o0 := O12.get (x := .int .i64 eh) 0 rfl
                have o1 := O12.get (x := .int .i64 ei) 1 rfl
                have o2 := O12.get (x := .string es) 2 rfl
                have o3 := O12.get (x := .int .i64 ed) 3 rfl
                have Y12 := Lib.hid (Y2a.out.kept hG12 (.inr ne1))
                obtain ⟨u12, y12⟩ := own_cell1 Y12.out k (by omega)
                have f12 := own_frozen Y12.out k
                have O13 := O12.grown (only_sc (g := g0) (grown_refl _ _) k (.slice (some ⟨gq, 0, none⟩) (l.length + 1) cq)) ne0
                have p0 := O13.get (x := .int .i64 eh) 0 rfl
                have p1 := O13.get (x := .int .i64 ei) 1 rfl
                have p2 := O13.get (x := .string es) 2 rfl
                have p3 := O13.get (x := .int .i64 ed) 3 rfl
                refine hK.out _ _ ⟨o0, o1, o2, o3⟩ (fun hHeld211 => ?_)
                clear hK K
                try simp only [Act.put, List.setIfInBounds_toArray, List.set_cons_zero, List.set_cons_succ]
                refine wpAnyH_take (i := 10) (oi := ?oi212) (v := ?v212) ?hi212 ?hs212 ?hf212 ?hr212 ?hQ212 ?hy212 ?hS212 ?hrest212
                case hi212 => (conv => lhs; simp only [List.getElem?_toArray, List.getElem?_cons_zero, List.getElem?_cons_succ]); try exact rfl
                case hs212 => kernel_rfl
                case hf212 => kernel_rfl
                case hr212 => kernel_rfl
                case hQ212 => exact fun _ _ _ h => h
                case hS212 => assumption
                case hy212 => refine Or.inl ⟨by rfl, ?_⟩; intro w hSw; (try dsimp only at hSw); go_simp; (try with_reducible rfl)
                simp only [Act.put, List.setIfInBounds_toArray, List.set_cons_zero, List.set_cons_succ]
                refine wpAnyH_ready (rs := [11]) (by kernel_rfl) (by simp) ?_
                refine AllReadyH.cons (o := ?oi213) ?hi213 (fun K hK => ?_) AllReadyH.nil
                case hi213 => (conv => lhs; simp only [List.getElem?_toArray, List.getElem?_cons_zero, List.getElem?_cons_succ]); try exact rfl
                go_simp
                refine hK.out _ _ ⟨p0, p1, p2, p3⟩ (fun hHeld213 => ?_)
                clear hK K
                try simp only [Act.put, List.setIfInBounds_toArray, List.set_cons_zero, List.set_cons_succ]
                refine wpAnyH_done (by kernel_rfl) ?_ _
                obtain ⟨q, hq⟩ : ∃ q : PgD, q = ⟨gq, cq, putE ⟨eh, ei, es, ed⟩ l, l.length + 1, cq⟩ := ⟨_, rfl⟩
                have hqv : q.val = .slice (some ⟨gq, 0, none⟩) (l.length + 1) cq := by rw [hq]; rfl
                have hpe : putE ⟨eh, ei, es, ed⟩ l = l.take t ++ ⟨eh, ei, es, ed⟩ :: l.drop t := by unfold putE; rw [hat.out]
                have hqd : OwnD w12 W4.heap.size q := by
                  rw [hq]
                  refine ⟨?_, by simp only [putE_len]; exact Nat.le_refl _⟩
                  simp only [putE_len]
                  rw [hpe]; exact own12
                have hcq : l.length + 1 ≤ cq := by obtain ⟨_, _, _, h, _⟩ := own_some own12; exact h
                have hkL : k < L.length := by omega
                have HP12 := Lib.hid ((HO8.out.bl (belA (bel0 _).drew (.cells #[.int .i64 eh, .int .i64 ei, .string es, .int .i64 ed] 40))).set hkL (by rw [Hgk.out]; exact hG12) hqd (by
                  rw [hq, Hgk.out]
                  exact hbk12.elim (fun h => .inl (by injection h)) (fun ⟨_, h, h2⟩ => .inr (by injection h with h; subst h; exact h2))))
                have B13 := Lib.hid (belC ((belA (belN B6 hb11).drew (.cells #[.int .i64 eh, .int .i64 ei, .string es, .int .i64 ed] 40)).trans (hB12.mono (Nat.le_of_lt l4))) g0 k (Nat.le_trans (Nat.le_of_lt l4) lg0) (.slice (some ⟨gq, 0, none⟩) (l.length + 1) cq))
                have HP13 := Lib.hid (HP12.out.app Y12.out (show w12.grownBy (w12.setCell ⟨g0, k, none⟩ (.slice (some ⟨gq, 0, none⟩) (l.length + 1) cq)) (some g0) from only_sc (grown_refl _ _) k _))
                have y := own_set Y12.out k q.val
                rw [PV_set, hqv] at y
                have Y13 := Lib.hid y
                clear y x0 x1 x2 x3 a0 a1 a2 a3 o0 o1 o2 o3 p0 p1 p2 p3 y12 f12 O12 O13 OA OB HoA O8 Y2a y2a y2b y2 Y2 Ho2 HO8 hG12 hB12 own12 hbk12 hqd HP12 Y12 hpe
                generalize (w12.setCell ⟨g0, k, none⟩ (.slice (some ⟨gq, 0, none⟩) (l.length + 1) cq)) = w13 at B13 HP13 Y13 ⊢
                have y13 := Y13.out.cellAt k (by omega)
                rw [PV_get _ k (by rw [List.length_set]; omega), List.getElem_set_self, hqv] at y13
                have hpl := putE_len ⟨eh, ei, es, ed⟩ l
                generalize hm : l.length + 1 = m at y13 hqv hcq hpl hq ⊢
                have q0 : (0 : Int) ≤ (k : Int) := by omega
                have q1 : (k : Int) < (j : Int) := by omega
                by_cases h4 : m = 5
                · subst h4
                  have c3 : ¬ (cq = 3) := by omega
                  have c4 : (3 : Int) ≤ (cq : Int) := by omega
                  have c5 : 3 ≤ cq := by omega
                  have hqx : OwnD w13 W4.heap.size q := HP13.out.1 q (List.mem_set hkL q)
                  have hrd := hqx.sub 3
                  rw [hq] at hrd
                  simp only [hpl] at hrd
                  go_wp2_with fail
                  refine (copyEnts_impl (some ⟨gq, 12, none⟩) 2 (cq - 3) ((putE ⟨eh, ei, es, ed⟩ l).drop 3) (by omega) w13 hrd).mono ?_
                  rintro r w14 ⟨v14, rfl, own14, hb14⟩
                  obtain ⟨gr, cr, rfl⟩ := own_form1 own14 (by omega)
                  have lgr := (own_some own14).1
                  have B14 := Lib.hid (belN B13.out hb14)
                  have HP14 := Lib.hid (HP13.out.bl hb14)
                  have Y14 := Lib.hid (own_below Y13.out hb14 (Nat.le_refl _))
                  have l13 : W4.heap.size ≤ w13.heap.size := by have := World.block_lt_of_cell? _ _ y13; simp only at this; omega
                  obtain ⟨rp, hrp⟩ : ∃ q : PgD, q = ⟨gr, cr, (putE ⟨eh, ei, es, ed⟩ l).drop 3, 2, cr⟩ := ⟨_, rfl⟩
                  have hrl : ((putE ⟨eh, ei, es, ed⟩ l).drop 3).length = 2 := by rw [List.length_drop, hpl]
                  have HRP := Lib.hid (show OwnD w14 W4.heap.size rp by
                    rw [hrp]
                    refine ⟨?_, by simp only [hrl]; exact Nat.le_refl _⟩
                    simp only [hrl]
                    exact own_more own14 l13)
                  have hrv : rp.val = .slice (some ⟨gr, 0, none⟩) 2 cr := by rw [hrp]; rfl
                  have HRN := Lib.hid (show ∀ x ∈ L.set k q, x.g ≠ rp.g from fun x hx => by
                    have h1 := (HP13.out.1 x hx).lt.2
                    have h2 := (own_some own14).1
                    rw [hrp]
                    show x.g ≠ gr
                    omega)
                  have y14 := Y14.out.cellAt k (by omega)
                  rw [PV_get _ k (by rw [List.length_set]; omega), List.getElem_set_self, hqv] at y14
                  have f14 := own_frozen Y14.out k
                  obtain ⟨i, hi⟩ : ∃ i, i = k + 1 := ⟨_, rfl⟩
                  have wk : IntKind.i64.wrap ((k : Int) + 1) = (i : Int) := by rw [IntKind.wrap_i64]; omega
                  obtain ⟨q2, hq2⟩ : ∃ q : PgD, q = ⟨gq, cq, putE ⟨eh, ei, es, ed⟩ l, 3, 3⟩ := ⟨_, rfl⟩
                  have hqv2 : q2.val = .slice (some ⟨gq, 0, none⟩) 3 3 := by rw [hq2]; rfl
                  have HP14b := Lib.hid (show OwnP w14 W4.heap.size (L.set k q2) by
                    have h := HP14.out.set (k := k) (q := q2) (by rw [List.length_set]; exact hkL) (grown_refl _ _) (by
                      have h := HP14.out.1 q (List.mem_set hkL q)
                      rw [hq] at h
                      rw [hq2]
                      exact ⟨h.1, by simp only [hpl]; omega⟩) (.inl (by rw [List.getElem_set_self, hq, hq2]))
                    rwa [List.set_set] at h)
                  have HP15 := Lib.hid (HP14b.out.app Y14.out (show w14.grownBy (w14.setCell ⟨g0, k, none⟩ (.slice (some ⟨gq, 0, none⟩) 3 3)) (some g0) from only_sc (grown_refl _ _) k _))
                  have HRP15 := Lib.hid (HRP.out.grownR (show w14.grownBy (w14.setCell ⟨g0, k, none⟩ (.slice (some ⟨gq, 0, none⟩) 3 3)) (some g0) from only_sc (grown_refl _ _) k _) (own_blk Y14.out HRP.out))
                  have y := own_set Y14.out k q2.val
                  rw [PV_set, List.set_set, hqv2] at y
                  have Y15 := Lib.hid y
                  have B15 := Lib.hid (belC B14.out g0 k (Nat.le_trans (Nat.le_of_lt l4) lg0) (.slice (some ⟨gq, 0, none⟩) 3 3))
                  obtain ⟨w15, hw15⟩ : ∃ W, w14.setCell ⟨g0, k, none⟩ (.slice (some ⟨gq, 0, none⟩) 3 3) = W := ⟨_, rfl⟩
                  rw [hw15] at HP15 HRP15 Y15 B15
                  clear y own14 hb14 hrd hqx HP14 HP14b Y14 B14 HRP Y13 HP13 B13 y13
                  have Hq := Lib.hid hq
                  have Hq2 := Lib.hid hq2
                  have Hrp := Lib.hid hrp
                  have Hi := Lib.hid hi
                  have Hhm := Lib.hid hm
                  have i0 : i ≤ 8 := by omega
                  have i1 : i ≤ j := by omega
                  clear hq hq2 hrp hi hm hpl hrl hqv hqv2 c4
                  have c6 : (3 : Int) ≤ (cq : Int) := by omega
                  go_wp2_with fail
                  try rw [hw15]
                  have HW15 := Lib.hid hw15
                  clear y14 f14 hw15
                  have OA15 : Blk (w15.alloc (.cells #[.slice (some ⟨gr, 0, none⟩) 2 cr] 30)) w15.heap.size 30 #[rp.val] := by rw [hrv]; exact Blk.new' _ _ _ _ rfl
                  have lg15 := (Y15.out.lt g0 rfl).2
                  have hbs : W4.heap.size ≤ (w15.alloc (.cells #[.slice (some ⟨gr, 0, none⟩) 2 cr] 30)).heap.size := by rw [World.size_alloc]; omega
                  have YA := Lib.hid (World.ownsRow.alloc Y15.out (.cells #[.slice (some ⟨gr, 0, none⟩) 2 cr] 30))
                  have hls : (L.set k q2).length = j := by rw [List.length_set]; exact hN
                  have hnb : (Value.slice (some ⟨g0, 0, none⟩) j c0).ownBlock ≠ some w15.heap.size := fun e => by have := (Y15.out.lt _ e).2; omega
                  have hj8 : j ≤ 100000 := by omega
                  refine (insP_any W4.heap.size j i (.slice (some ⟨g0, 0, none⟩) j c0) (L.set k q2) rp w15.heap.size (w15.alloc (.cells #[.slice (some ⟨gr, 0, none⟩) 2 cr] 30)) hj8 i1 hls hbs YA.out OA15 hnb).mono ?_
                  rintro r w16 ⟨v16, rfl, own16, hB16, hG16, _⟩
                  have hbw : Below w.heap.size w w16 := (belA B15.out (.cells #[.slice (some ⟨gr, 0, none⟩) 2 cr] 30)).trans (hB16.mono (Nat.le_of_lt l4))
                  have HRN2 : ∀ x ∈ L.set k q2, x.g ≠ rp.g := by
                    intro x hx
                    obtain ⟨n', hn', rfl⟩ := List.mem_iff_getElem.1 hx
                    have hnL : n' < L.length := by rw [List.length_set] at hn'; exact hn'
                    by_cases e : k = n'
                    · subst e
                      have := HRN.out q (List.mem_set hkL q)
                      rw [Hq.out] at this
                      rw [List.getElem_set_self, Hq2.out]
                      exact this
                    · rw [List.getElem_set_ne e]
                      have h3 : (L.set k q)[n']'(by rw [List.length_set]; exact hnL) = L[n'] := List.getElem_set_ne e _
                      rw [← h3]
                      exact HRN.out _ (List.getElem_mem _)
                  have HP16 := Lib.hid (((HP15.out.ins (i := i) HRP15.out HRN2).bl (belA (bel0 _) (.cells #[.slice (some ⟨gr, 0, none⟩) 2 cr] 30))).app YA.out hG16)
                  have hl16 : ((L.set k q2).take i ++ rp :: (L.set k q2).drop i).length = j + 1 := by rw [List.length_append, List.length_cons, List.length_take, List.length_drop, hls]; omega
                  rw [← hl16] at own16
                  obtain ⟨A16, c16, rfl, hpg⟩ := pages_of HP16.out own16
                  have hcn : ((L.set k q2).take i ++ rp :: (L.set k q2).drop i).map PgD.con = partP ps k (putE ⟨eh, ei, es, ed⟩ l) := by
                    unfold partP
                    rw [if_pos (by rw [putE_len]; have := Hhm.out; omega)]
                    rw [Hi.out, List.take_set_succ' L k q2 hkL, List.drop_set_of_lt (show k < k + 1 by omega), List.map_append, List.map_append, List.map_cons, List.map_cons, List.map_nil, List.map_take, List.map_drop, hcon]
                    have e1 : q2.con = (putE ⟨eh, ei, es, ed⟩ l).take 3 := by rw [Hq2.out]; rfl
                    have e2 : rp.con = (putE ⟨eh, ei, es, ed⟩ l).drop 3 := by
                      rw [Hrp.out]
                      exact List.take_of_length_le (by rw [List.length_drop, putE_len]; have := Hhm.out; simp only; omega)
                    rw [e1, e2, List.append_assoc]; rfl
                  rw [hcn] at hpg
                  have HPG := Lib.hid hpg
                  have hpl8 : (partP ps k (putE ⟨eh, ei, es, ed⟩ l)).length = j + 1 := by rw [← hcn, List.length_map, hl16]
                  rw [hl16] at HPG ⊢
                  obtain ⟨J, hJ⟩ : ∃ J, J = j + 1 := ⟨_, rfl⟩
                  have HJ := Lib.hid hJ
                  rw [← hJ] at HPG hpl8 ⊢
                  clear hpg own16 hl16 hcn HP16 HRN2 hB16 hG16 YA hbs hls hnb OA15 hJ HP15 HRP15 Y15 B15 HRN
                  by_cases h8 : 8 < J
                  · have HA := Lib.hid (addPg_full (ps := ps) (e := ⟨eh, ei, es, ed⟩) hf2 h0 Hk.out (by rw [Hgl.out]) (by rw [hpl8]; exact h8))
                    have q9 : ((J : Nat) : Int) > 8 := by omega
                    clear hpl8
                    go_wp2_with fail
                    refine (copyPages_impl A j c ps (by omega) (fun l hl => by have := hz4 l hl; omega) w16 (Hp.out _ hbw)).mono ?_
                    rintro r w17 ⟨v17, L17, rfl, hcon17, _, hO17, hown17, hb17⟩
                    obtain ⟨A17, c17, rfl, hpg17⟩ := pages_of hO17 hown17
                    rw [hcon17] at hpg17
                    have HPG17 := Lib.hid hpg17
                    have B17 := belN hbw hb17
                    clear hO17 hown17 hpg17
                    go_wp2
                    refine bodyPost_ret (v := .tuple #[.slice A17 L17.length c17, .bool false]) (by simp [results, Tryz.results29, go_sem]) rfl ⟨A17, L17.length, c17, ps, false, rfl, HA.out, HPG17.out.mono hbw.size, B17⟩
                  · have HA := Lib.hid (addPg_yes (ps := ps) (e := ⟨eh, ei, es, ed⟩) hf2 h0 Hk.out (by rw [Hgl.out]) (by rw [hpl8]; exact h8))
                    have q9 : ¬ (((J : Nat) : Int) > 8) := by omega
                    clear hpl8
                    go_wp2
                    refine bodyPost_ret (v := .tuple #[.slice A16 J c16, .bool true]) (by simp [results, Tryz.results29, go_sem]) rfl ⟨A16, J, c16, _, true, rfl, HA.out, HPG.out.mono (Nat.le_of_lt l4), hbw⟩
                · have hm4 : ¬ ((m : Int) > 4) := by omega
                  have Hhm := Lib.hid hm
                  have Hq := Lib.hid hq
                  have hsl : (L.set k q).length = j := by rw [List.length_set]; exact hN
                  have hpg := HP13.out.pages (g := g0) (c := c0) (by rw [hsl]; exact Y13.out)
                  rw [hsl] at hpg
                  have hcn : (L.set k q).map PgD.con = ps.set k (putE ⟨eh, ei, es, ed⟩ l) := by
                    rw [List.map_set, hcon]
                    congr 1
                    rw [Hq.out]
                    exact List.take_of_length_le (by rw [putE_len]; have := Hhm.out; simp only; omega)
                  have hpp : partP ps k (putE ⟨eh, ei, es, ed⟩ l) = ps.set k (putE ⟨eh, ei, es, ed⟩ l) := by unfold partP; rw [if_neg (by rw [putE_len]; omega)]
                  rw [hcn, ← hpp] at hpg
                  have HPG := Lib.hid hpg
                  have HA := Lib.hid (addPg_yes (ps := ps) (e := ⟨eh, ei, es, ed⟩) hf2 h0 Hk.out (by rw [Hgl.out]) (by rw [hpp, List.length_set]; omega))
                  have q9 : ¬ ((j : Int) > 8) := by omega
                  have m4 : ¬ (m > 4) := by omega
                  have j8 : ¬ (j > 8) := by omega
                  clear hpg hcn hpp hsl hm hq hpl hqv
                  go_wp2
                  refine bodyPost_ret (v := .tuple #[.slice (some ⟨g0, 0, none⟩) j c0, .bool true]) (by simp [results, Tryz.results29, go_sem]) rfl ⟨_, j, c0, _, true, rfl, HA.out, HPG.out.mono (Nat.le_of_lt l4), B13.out⟩
              · go_simp
                refine hK.out _ _ ⟨a0, a1, a2, a3⟩ (fun hHeld => ?_)
                clear hK K
                try simp only [Act.put, List.setIfInBounds_toArray, List.set_cons_zero, List.set_cons_succ]
                refine wpAnyH_ready (rs := [5]) (by kernel_rfl) (by simp) ?_
                refine AllReadyH.cons (o := ?oi214) ?hi214 (fun K hK => ?_) AllReadyH.nil
                case hi214 => (conv => lhs; simp only [List.getElem?_toArray, List.getElem?_cons_zero, List.getElem?_cons_succ]); try exact rfl
                go_simp
                refine hK.out _ _ ⟨a0, a1, a2, a3⟩ (fun hHeld214 => ?_)
                clear hK K
                try simp only [Act.put, List.setIfInBounds_toArray, List.set_cons_zero, List.set_cons_succ]
                refine wpAnyH_ready (rs := [9]) (by kernel_rfl) (by simp) ?_
                refine AllReadyH.cons (o := ?oi215) ?hi215 (fun K hK => ?_) AllReadyH.nil
                case hi215 => (conv => lhs; simp only [List.getElem?_toArray, List.getElem?_cons_zero, List.getElem?_cons_succ]); try exact rfl
                go_simp
                go_at_call 56
                refine (insG_any W4.heap.size l.length t _ l ⟨eh, ei, es, ed⟩ w10.heap.size (w10.drew.alloc (.cells #[.int .i64 eh, .int .i64 ei, .string es, .int .i64 ed] 40)) (by omega) htl rfl (by simp; omega) HoA.out OB (fun e => by have := (Ho2.out.lt _ e).2; omega)).mono ?_
                rintro e w12 ⟨v', rfl, own12, hB12, hG12, hbk12⟩
                obtain ⟨gq, cq, rfl⟩ := own_form1 own12 (by omega)
                have O12 := OA.below hB12 l4
                have o0 := O12.get (x := .int .i64 eh) 0 rfl
                have o1 := O12.get (x := .int .i64 ei) 1 rfl
                have o2 := O12.get (x := .string es) 2 rfl
                have o3 := O12.get (x := .int .i64 ed) 3 rfl
                have Y12 := Lib.hid (Y2a.out.kept hG12 (.inr ne1))
                obtain ⟨u12, y12⟩ := own_cell1 Y12.out k (by omega)
                have f12 := own_frozen Y12.out k
                have O13 := O12.grown (only_sc (g := g0) (grown_refl _ _) k (.slice (some ⟨gq, 0, none⟩) (l.length + 1) cq)) ne0
                have p0 := O13.get (x := .int .i64 eh) 0 rfl
                have p1 := O13.get (x := .int .i64 ei) 1 rfl
                have p2 := O13.get (x := .string es) 2 rfl
                have p3 := O13.get (x := .int .i64 ed) 3 rfl
                refine hK.out _ _ ⟨o0, o1, o2, o3⟩ (fun hHeld215 => ?_)
                clear hK K
                try simp only [Act.put, List.setIfInBounds_toArray, List.set_cons_zero, List.set_cons_succ]
                refine wpAnyH_take (i := 10) (oi := ?oi216) (v := ?v216) ?hi216 ?hs216 ?hf216 ?hr216 ?hQ216 ?hy216 ?hS216 ?hrest216
                case hi216 => (conv => lhs; simp only [List.getElem?_toArray, List.getElem?_cons_zero, List.getElem?_cons_succ]); try exact rfl
                case hs216 => kernel_rfl
                case hf216 => kernel_rfl
                case hr216 => kernel_rfl
                case hQ216 => exact fun _ _ _ h => h
                case hS216 => assumption
                case hy216 => refine Or.inl ⟨by rfl, ?_⟩; intro w hSw; (try dsimp only at hSw); go_simp; (try with_reducible rfl)
                simp only [Act.put, List.setIfInBounds_toArray, List.set_cons_zero, List.set_cons_succ]
                refine wpAnyH_ready (rs := [11]) (by kernel_rfl) (by simp) ?_
                refine AllReadyH.cons (o := ?oi217) ?hi217 (fun K hK => ?_) AllReadyH.nil
                case hi217 => (conv => lhs; simp only [List.getElem?_toArray, List.getElem?_cons_zero, List.getElem?_cons_succ]); try exact rfl
                go_simp
                refine hK.out _ _ ⟨p0, p1, p2, p3⟩ (fun hHeld217 => ?_)
                clear hK K
                try simp only [Act.put, List.setIfInBounds_toArray, List.set_cons_zero, List.set_cons_succ]
                refine wpAnyH_done (by kernel_rfl) ?_ _
                obtain ⟨q, hq⟩ : ∃ q : PgD, q = ⟨gq, cq, putE ⟨eh, ei, es, ed⟩ l, l.length + 1, cq⟩ := ⟨_, rfl⟩
                have hqv : q.val = .slice (some ⟨gq, 0, none⟩) (l.length + 1) cq := by rw [hq]; rfl
                have hpe : putE ⟨eh, ei, es, ed⟩ l = l.take t ++ ⟨eh, ei, es, ed⟩ :: l.drop t := by unfold putE; rw [hat.out]
                have hqd : OwnD w12 W4.heap.size q := by
                  rw [hq]
                  refine ⟨?_, by simp only [putE_len]; exact Nat.le_refl _⟩
                  simp only [putE_len]
                  rw [hpe]; exact own12
                have hcq : l.length + 1 ≤ cq := by obtain ⟨_, _, _, h, _⟩ := own_some own12; exact h
                have hkL : k < L.length := by omega
                have HP12 := Lib.hid ((HO8.out.bl (belA (bel0 _).drew (.cells #[.int .i64 eh, .int .i64 ei, .string es, .int .i64 ed] 40))).set hkL (by rw [Hgk.out]; exact hG12) hqd (by
                  rw [hq, Hgk.out]
                  exact hbk12.elim (fun h => .inl (by injection h)) (fun ⟨_, h, h2⟩ => .inr (by injection h with h; subst h; exact h2))))
                have B13 := Lib.hid (belC ((belA (belN B6 hb11).drew (.cells #[.int .i64 eh, .int .i64 ei, .string es, .int .i64 ed] 40)).trans (hB12.mono (Nat.le_of_lt l4))) g0 k (Nat.le_trans (Nat.le_of_lt l4) lg0) (.slice (some ⟨gq, 0, none⟩) (l.length + 1) cq))
                have HP13 := Lib.hid (HP12.out.app Y12.out (show w12.grownBy (w12.setCell ⟨g0, k, none⟩ (.slice (some ⟨gq, 0, none⟩) (l.length + 1) cq)) (some g0) from only_sc (grown_refl _ _) k _))
                have y := own_set Y12.out k q.val
                rw [PV_set, hqv] at y
                have Y13 := Lib.hid y
                clear y x0 x1 x2 x3 a0 a1 a2 a3 o0 o1 o2 o3 p0 p1 p2 p3 y12 f12 O12 O13 OA OB HoA O8 Y2a y2a y2b y2 Y2 Ho2 HO8 hG12 hB12 own12 hbk12 hqd HP12 Y12 hpe
                generalize (w12.setCell ⟨g0, k, none⟩ (.slice (some ⟨gq, 0, none⟩) (l.length + 1) cq)) = w13 at B13 HP13 Y13 ⊢
                have y13 := Y13.out.cellAt k (by omega)
                rw [PV_get _ k (by rw [List.length_set]; omega), List.getElem_set_self, hqv] at y13
                have hpl := putE_len ⟨eh, ei, es, ed⟩ l
                generalize hm : l.length + 1 = m at y13 hqv hcq hpl hq ⊢
                have q0 : (0 : Int) ≤ (k : Int) := by omega
                have q1 : (k : Int) < (j : Int) := by omega
                by_cases h4 : m = 5
                · subst h4
                  have c3 : ¬ (cq = 3) := by omega
                  have c4 : (3 : Int) ≤ (cq : Int) := by omega
                  have c5 : 3 ≤ cq := by omega
                  have hqx : OwnD w13 W4.heap.size q := HP13.out.1 q (List.mem_set hkL q)
                  have hrd := hqx.sub 3
                  rw [hq] at hrd
                  simp only [hpl] at hrd
                  go_wp2_with fail
                  refine (copyEnts_impl (some ⟨gq, 12, none⟩) 2 (cq - 3) ((putE ⟨eh, ei, es, ed⟩ l).drop 3) (by omega) w13 hrd).mono ?_
                  rintro r w14 ⟨v14, rfl, own14, hb14⟩
                  obtain ⟨gr, cr, rfl⟩ := own_form1 own14 (by omega)
                  have lgr := (own_some own14).1
                  have B14 := Lib.hid (belN B13.out hb14)
                  have HP14 := Lib.hid (HP13.out.bl hb14)
                  have Y14 := Lib.hid (own_below Y13.out hb14 (Nat.le_refl _))
                  have l13 : W4.heap.size ≤ w13.heap.size := by have := World.block_lt_of_cell? _ _ y13; simp only at this; omega
                  obtain ⟨rp, hrp⟩ : ∃ q : PgD, q = ⟨gr, cr, (putE ⟨eh, ei, es, ed⟩ l).drop 3, 2, cr⟩ := ⟨_, rfl⟩
                  have hrl : ((putE ⟨eh, ei, es, ed⟩ l).drop 3).length = 2 := by rw [List.length_drop, hpl]
                  have HRP := Lib.hid (show OwnD w14 W4.heap.size rp by
                    rw [hrp]
                    refine ⟨?_, by simp only [hrl]; exact Nat.le_refl _⟩
                    simp only [hrl]
                    exact own_more own14 l13)
                  have hrv : rp.val = .slice (some ⟨gr, 0, none⟩) 2 cr := by rw [hrp]; rfl
                  have HRN := Lib.hid (show ∀ x ∈ L.set k q, x.g ≠ rp.g from fun x hx => by
                    have h1 := (HP13.out.1 x hx).lt.2
                    have h2 := (own_some own14).1
                    rw [hrp]
                    show x.g ≠ gr
                    omega)
                  have y14 := Y14.out.cellAt k (by omega)
                  rw [PV_get _ k (by rw [List.length_set]; omega), List.getElem_set_self, hqv] at y14
                  have f14 := own_frozen Y14.out k
                  obtain ⟨i, hi⟩ : ∃ i, i = k + 1 := ⟨_, rfl⟩
                  have wk : IntKind.i64.wrap ((k : Int) + 1) = (i : Int) := by rw [IntKind.wrap_i64]; omega
                  obtain ⟨q2, hq2⟩ : ∃ q : PgD, q = ⟨gq, cq, putE ⟨eh, ei, es, ed⟩ l, 3, 3⟩ := ⟨_, rfl⟩
                  have hqv2 : q2.val = .slice (some ⟨gq, 0, none⟩) 3 3 := by rw [hq2]; rfl
                  have HP14b := Lib.hid (show OwnP w14 W4.heap.size (L.set k q2) by
                    have h := HP14.out.set (k := k) (q := q2) (by rw [List.length_set]; exact hkL) (grown_refl _ _) (by
                      have h := HP14.out.1 q (List.mem_set hkL q)
                      rw [hq] at h
                      rw [hq2]
                      exact ⟨h.1, by simp only [hpl]; omega⟩) (.inl (by rw [List.getElem_set_self, hq, hq2]))
                    rwa [List.set_set] at h)
                  have HP15 := Lib.hid (HP14b.out.app Y14.out (show w14.grownBy (w14.setCell ⟨g0, k, none⟩ (.slice (some ⟨gq, 0, none⟩) 3 3)) (some g0) from only_sc (grown_refl _ _) k _))
                  have HRP15 := Lib.hid (HRP.out.grownR (show w14.grownBy (w14.setCell ⟨g0, k, none⟩ (.slice (some ⟨gq, 0, none⟩) 3 3)) (some g0) from only_sc (grown_refl _ _) k _) (own_blk Y14.out HRP.out))
                  have y := own_set Y14.out k q2.val
                  rw [PV_set, List.set_set, hqv2] at y
                  have Y15 := Lib.hid y
                  have B15 := Lib.hid (belC B14.out g0 k (Nat.le_trans (Nat.le_of_lt l4) lg0) (.slice (some ⟨gq, 0, none⟩) 3 3))
                  obtain ⟨w15, hw15⟩ : ∃ W, w14.setCell ⟨g0, k, none⟩ (.slice (some ⟨gq, 0, none⟩) 3 3) = W := ⟨_, rfl⟩
                  rw [hw15] at HP15 HRP15 Y15 B15
                  clear y own14 hb14 hrd hqx HP14 HP14b Y14 B14 HRP Y13 HP13 B13 y13
                  have Hq := Lib.hid hq
                  have Hq2 := Lib.hid hq2
                  have Hrp := Lib.hid hrp
                  have Hi := Lib.hid hi
                  have Hhm := Lib.hid hm
                  have i0 : i ≤ 8 := by omega
                  have i1 : i ≤ j := by omega
                  clear hq hq2 hrp hi hm hpl hrl hqv hqv2 c4
                  have c6 : (3 : Int) ≤ (cq : Int) := by omega
                  go_wp2_with fail
                  try rw [hw15]
                  have HW15 := Lib.hid hw15
                  clear y14 f14 hw15
                  have OA15 : Blk (w15.alloc (.cells #[.slice (some ⟨gr, 0, none⟩) 2 cr] 30)) w15.heap.size 30 #[rp.val] := by rw [hrv]; exact Blk.new' _ _ _ _ rfl
                  have lg15 := (Y15.out.lt g0 rfl).2
                  have hbs : W4.heap.size ≤ (w15.alloc (.cells #[.slice (some ⟨gr, 0, none⟩) 2 cr] 30)).heap.size := by rw [World.size_alloc]; omega
                  have YA := Lib.hid (World.ownsRow.alloc Y15.out (.cells #[.slice (some ⟨gr, 0, none⟩) 2 cr] 30))
                  have hls : (L.set k q2).length = j := by rw [List.length_set]; exact hN
                  have hnb : (Value.slice (some ⟨g0, 0, none⟩) j c0).ownBlock ≠ some w15.heap.size := fun e => by have := (Y15.out.lt _ e).2; omega
                  have hj8 : j ≤ 100000 := by omega
                  refine (insP_any W4.heap.size j i (.slice (some ⟨g0, 0, none⟩) j c0) (L.set k q2) rp w15.heap.size (w15.alloc (.cells #[.slice (some ⟨gr, 0, none⟩) 2 cr] 30)) hj8 i1 hls hbs YA.out OA15 hnb).mono ?_
                  rintro r w16 ⟨v16, rfl, own16, hB16, hG16, _⟩
                  have hbw : Below w.heap.size w w16 := (belA B15.out (.cells #[.slice (some ⟨gr, 0, none⟩) 2 cr] 30)).trans (hB16.mono (Nat.le_of_lt l4))
                  have HRN2 : ∀ x ∈ L.set k q2, x.g ≠ rp.g := by
                    intro x hx
                    obtain ⟨n', hn', rfl⟩ := List.mem_iff_getElem.1 hx
                    have hnL : n' < L.length := by rw [List.length_set] at hn'; exact hn'
                    by_cases e : k = n'
                    · subst e
                      have := HRN.out q (List.mem_set hkL q)
                      rw [Hq.out] at this
                      rw [List.getElem_set_self, Hq2.out]
                      exact this
                    · rw [List.getElem_set_ne e]
                      have h3 : (L.set k q)[n']'(by rw [List.length_set]; exact hnL) = L[n'] := List.getElem_set_ne e _
                      rw [← h3]
                      exact HRN.out _ (List.getElem_mem _)
                  have HP16 := Lib.hid (((HP15.out.ins (i := i) HRP15.out HRN2).bl (belA (bel0 _) (.cells #[.slice (some ⟨gr, 0, none⟩) 2 cr] 30))).app YA.out hG16)
                  have hl16 : ((L.set k q2).take i ++ rp :: (L.set k q2).drop i).length = j + 1 := by rw [List.length_append, List.length_cons, List.length_take, List.length_drop, hls]; omega
                  rw [← hl16] at own16
                  obtain ⟨A16, c16, rfl, hpg⟩ := pages_of HP16.out own16
                  have hcn : ((L.set k q2).take i ++ rp :: (L.set k q2).drop i).map PgD.con = partP ps k (putE ⟨eh, ei, es, ed⟩ l) := by
                    unfold partP
                    rw [if_pos (by rw [putE_len]; have := Hhm.out; omega)]
                    rw [Hi.out, List.take_set_succ' L k q2 hkL, List.drop_set_of_lt (show k < k + 1 by omega), List.map_append, List.map_append, List.map_cons, List.map_cons, List.map_nil, List.map_take, List.map_drop, hcon]
                    have e1 : q2.con = (putE ⟨eh, ei, es, ed⟩ l).take 3 := by rw [Hq2.out]; rfl
                    have e2 : rp.con = (putE ⟨eh, ei, es, ed⟩ l).drop 3 := by
                      rw [Hrp.out]
                      exact List.take_of_length_le (by rw [List.length_drop, putE_len]; have := Hhm.out; simp only; omega)
                    rw [e1, e2, List.append_assoc]; rfl
                  rw [hcn] at hpg
                  have HPG := Lib.hid hpg
                  have hpl8 : (partP ps k (putE ⟨eh, ei, es, ed⟩ l)).length = j + 1 := by rw [← hcn, List.length_map, hl16]
                  rw [hl16] at HPG ⊢
                  obtain ⟨J, hJ⟩ : ∃ J, J = j + 1 := ⟨_, rfl⟩
                  have HJ := Lib.hid hJ
                  rw [← hJ] at HPG hpl8 ⊢
                  clear hpg own16 hl16 hcn HP16 HRN2 hB16 hG16 YA hbs hls hnb OA15 hJ HP15 HRP15 Y15 B15 HRN
                  by_cases h8 : 8 < J
                  · have HA := Lib.hid (addPg_full (ps := ps) (e := ⟨eh, ei, es, ed⟩) hf2 h0 Hk.out (by rw [Hgl.out]) (by rw [hpl8]; exact h8))
                    have q9 : ((J : Nat) : Int) > 8 := by omega
                    clear hpl8
                    go_wp2_with fail
                    refine (copyPages_impl A j c ps (by omega) (fun l hl => by have := hz4 l hl; omega) w16 (Hp.out _ hbw)).mono ?_
                    rintro r w17 ⟨v17, L17, rfl, hcon17, _, hO17, hown17, hb17⟩
                    obtain ⟨A17, c17, rfl, hpg17⟩ := pages_of hO17 hown17
                    rw [hcon17] at hpg17
                    have HPG17 := Lib.hid hpg17
                    have B17 := belN hbw hb17
                    clear hO17 hown17 hpg17
                    go_wp2
                    refine bodyPost_ret (v := .tuple #[.slice A17 L17.length c17, .bool false]) (by simp [results, Tryz.results29, go_sem]) rfl ⟨A17, L17.length, c17, ps, false, rfl, HA.out, HPG17.out.mono hbw.size, B17⟩
                  · have HA := Lib.hid (addPg_yes (ps := ps) (e := ⟨eh, ei, es, ed⟩) hf2 h0 Hk.out (by rw [Hgl.out]) (by rw [hpl8]; exact h8))
                    have q9 : ¬ (((J : Nat) : Int) > 8) := by omega
                    clear hpl8
                    go_wp2
                    refine bodyPost_ret (v := .tuple #[.slice A16 J c16, .bool true]) (by simp [results, Tryz.results29, go_sem]) rfl ⟨A16, J, c16, _, true, rfl, HA.out, HPG.out.mono (Nat.le_of_lt l4), hbw⟩
                · have hm4 : ¬ ((m : Int) > 4) := by omega
                  have Hhm := Lib.hid hm
                  have Hq := Lib.hid hq
                  have hsl : (L.set k q).length = j := by rw [List.length_set]; exact hN
                  have hpg := HP13.out.pages (g := g0) (c := c0) (by rw [hsl]; exact Y13.out)
                  rw [hsl] at hpg
                  have hcn : (L.set k q).map PgD.con = ps.set k (putE ⟨eh, ei, es, ed⟩ l) := by
                    rw [List.map_set, hcon]
                    congr 1
                    rw [Hq.out]
                    exact List.take_of_length_le (by rw [putE_len]; have := Hhm.out; simp only; omega)
                  have hpp : partP ps k (putE ⟨eh, ei, es, ed⟩ l) = ps.set k (putE ⟨eh, ei, es, ed⟩ l) := by unfold partP; rw [if_neg (by rw [putE_len]; omega)]
                  rw [hcn, ← hpp] at hpg
                  have HPG := Lib.hid hpg
                  have HA := Lib.hid (addPg_yes (ps := ps) (e := ⟨eh, ei, es, ed⟩) hf2 h0 Hk.out (by rw [Hgl.out]) (by rw [hpp, List.length_set]; omega))
                  have q9 : ¬ ((j : Int) > 8) := by omega
                  have m4 : ¬ (m > 4) := by omega
                  have j8 : ¬ (j > 8) := by omega
                  clear hpg hcn hpp hsl hm hq hpl hqv
                  go_wp2
                  refine bodyPost_ret (v := .tuple #[.slice (some ⟨g0, 0, none⟩) j c0, .bool true]) (by simp [results, Tryz.results29, go_sem]) rfl ⟨_, j, c0, _, true, rfl, HA.out, HPG.out.mono (Nat.le_of_lt l4), B13.out⟩
            case inr.inr =>
              clear Y1 y1 O7 x0 x1 x2 x3 ho1 Hall hbel q3
              have Y2 := Lib.hid (own_below Y0.out hb11 (Nat.le_refl _))
              have y2 := Y2.out.cellAt k (by omega)
              rw [PV_get L k (by omega), Hv.out] at y2
              have O8 := O6.below hb11 O6.lt
              have OA := O8.drew.alloc (.cells #[.int .i64 eh, .int .i64 ei, .string es, .int .i64 ed] 40)
              have x0 := O8.get (x := .int .i64 eh) 0 rfl
              have x1 := O8.get (x := .int .i64 ei) 1 rfl
              have x2 := O8.get (x := .string es) 2 rfl
              have x3 := O8.get (x := .int .i64 ed) 3 rfl
              have a0 := OA.get (x := .int .i64 eh) 0 rfl
              have a1 := OA.get (x := .int .i64 ei) 1 rfl
              have a2 := OA.get (x := .string es) 2 rfl
              have a3 := OA.get (x := .int .i64 ed) 3 rfl
              have lO := O8.lt
              have Ho2 := Lib.hid (own_below Ho.out hb11 (Nat.le_refl _))
              have HO8 := Lib.hid (HO5.out.bl hb11)
              have l4 : w.heap.size < W4.heap.size := O4l
              have l10 : W4.heap.size ≤ w10.heap.size := by have := (own_some Y2.out).1; have := World.block_lt_of_cell? _ _ y2; simp only at this; omega
              have lg0 : W4.heap.size ≤ g0 := (own_some Y2.out).1
              have ne0 : (some w.heap.size : Option Nat) ≠ some g0 := fun e => by injection e with e; omega
              have ne1 : (some g0 : Option Nat) ≠ some gk := by
                have := pg_ne Y2.out (HO8.out.1 _ (List.getElem_mem (show k < L.length by omega)))
                rw [Hgk.out] at this
                exact fun e => this (by injection e with e; exact e.symm)
              have gk10 : gk < w10.heap.size := by have := (HO8.out.1 _ (List.getElem_mem (show k < L.length by omega))).lt.2; rw [Hgk.out] at this; exact this
              have Y2a := Lib.hid (own_below (w := w10) Y2.out (belA (bel0 _).drew (.cells #[.int .i64 eh, .int .i64 ei, .string es, .int .i64 ed] 40)) (Nat.le_refl _))
              have y2a := Y2a.out.cellAt k (by omega)
              rw [PV_get L k (by omega), Hv.out] at y2a
              have y2b : (w10.alloc (.cells #[.int .i64 eh, .int .i64 ei, .string es, .int .i64 ed] 40)).cell? ⟨g0, k, none⟩ = some (.slice (some ⟨gk, 0, none⟩) l.length ck) := y2a
              have HoA := Lib.hid (own_below (w := w10) Ho2.out (belA (bel0 _).drew (.cells #[.int .i64 eh, .int .i64 ei, .string es, .int .i64 ed] 40)) (Nat.le_refl _))
              have OB : Blk (w10.drew.alloc (.cells #[.int .i64 eh, .int .i64 ei, .string es, .int .i64 ed] 40)) w10.heap.size 40 (⟨eh, ei, es, ed⟩ : EntD).arr := Blk.new' _ _ _ _ rfl
              go_wp2_with fail
              refine wp_region_held_drew (S := fun w' => w'.cell? ⟨w.heap.size, 0, none⟩ = some (.int .i64 eh) ∧ w'.cell? ⟨w.heap.size, 1, none⟩ = some (.int .i64 ei) ∧ w'.cell? ⟨w.heap.size, 2, none⟩ = some (.string es) ∧ w'.cell? ⟨w.heap.size, 3, none⟩ = some (.int .i64 ed)) (by kernel_rfl) ⟨x0, x1, x2, x3⟩ (fun hHeld => ?_)
              refine wpAnyH_take (i := 0) (oi := ?oi401) (v := ?v401) ?hi401 ?hs401 ?hf401 ?hr401 ?hQ401 ?hy401 ?hS401 ?hrest401
              case hi401 => (conv => lhs; simp only [List.getElem?_toArray, List.getElem?_cons_zero]); try exact rfl
              case hs401 => kernel_rfl
              case hf401 => kernel_rfl
              case hr401 => kernel_rfl
              case hQ401 => exact fun _ _ _ h => h
              case hS401 => assumption
              case hy401 => refine Or.inl ⟨by rfl, ?_⟩; intro w hSw; (try dsimp only at hSw); go_simp; (try with_reducible rfl)
              simp only [Act.put, List.setIfInBounds_toArray, List.set_cons_zero, List.set_cons_succ]
              refine wpAnyH_take (i := 1) (oi := ?oi402) (v := ?v402) ?hi402 ?hs402 ?hf402 ?hr402 ?hQ402 ?hy402 ?hS402 ?hrest402
              case hi402 => (conv => lhs; simp only [List.getElem?_toArray, List.getElem?_cons_zero, List.getElem?_cons_succ]); try exact rfl
              case hs402 => kernel_rfl
              case hf402 => kernel_rfl
              case hr402 => kernel_rfl
              case hQ402 => exact fun _ _ _ h => h
              case hS402 => assumption
              case hy402 => refine Or.inl ⟨by rfl, ?_⟩; intro w hSw; (try dsimp only at hSw); go_simp; (try with_reducible rfl)
              simp only [Act.put, List.setIfInBounds_toArray, List.set_cons_zero, List.set_cons_succ]
              refine wpAnyH_take (i := 2) (oi := ?oi403) (v := ?v403) ?hi403 ?hs403 ?hf403 ?hr403 ?hQ403 ?hy403 ?hS403 ?hrest403
              case hi403 => (conv => lhs; simp only [List.getElem?_toArray, List.getElem?_cons_zero, List.getElem?_cons_succ]); try exact rfl
              case hs403 => kernel_rfl
              case hf403 => kernel_rfl
              case hr403 => kernel_rfl
              case hQ403 => exact fun _ _ _ h => h
              case hS403 => assumption
              case hy403 => refine Or.inl ⟨by rfl, ?_⟩; intro w hSw; (try dsimp only at hSw); go_simp; (try with_reducible rfl)
              simp only [Act.put, List.setIfInBounds_toArray, List.set_cons_zero, List.set_cons_succ]
              refine wpAnyH_take (i := 3) (oi := ?oi404) (v := ?v404) ?hi404 ?hs404 ?hf404 ?hr404 ?hQ404 ?hy404 ?hS404 ?hrest404
              case hi404 => (conv => lhs; simp only [List.getElem?_toArray, List.getElem?_cons_zero, List.getElem?_cons_succ]); try exact rfl
              case hs404 => kernel_rfl
              case hf404 => kernel_rfl
              case hr404 => kernel_rfl
              case hQ404 => exact fun _ _ _ h => h
              case hS404 => assumption
              case hy404 => refine Or.inl ⟨by rfl, ?_⟩; intro w hSw; (try dsimp only at hSw); go_simp; (try with_reducible rfl)
              simp only [Act.put, List.setIfInBounds_toArray, List.set_cons_zero, List.set_cons_succ]
              refine wpAnyH_take (i := 4) (oi := ?oi405) (v := ?v405) ?hi405 ?hs405 ?hf405 ?hr405 ?hQ405 ?hy405 ?hS405 ?hrest405
              case hi405 => (conv => lhs; simp only [List.getElem?_toArray, List.getElem?_cons_zero, List.getElem?_cons_succ]); try exact rfl
              case hs405 => kernel_rfl
              case hf405 => kernel_rfl
              case hr405 => kernel_rfl
              case hQ405 => exact fun _ _ _ h => h
              case hS405 => assumption
              case hy405 => refine Or.inl ⟨by rfl, ?_⟩; intro w hSw; (try dsimp only at hSw); go_simp; (try with_reducible rfl)
              simp only [Act.put, List.setIfInBounds_toArray, List.set_cons_zero, List.set_cons_succ]
              refine wpAnyH_take (i := 6) (oi := ?oi406) (v := ?v406) ?hi406 ?hs406 ?hf406 ?hr406 ?hQ406 ?hy406 ?hS406 ?hrest406
              case hi406 => (conv => lhs; simp only [List.getElem?_toArray, List.getElem?_cons_zero, List.getElem?_cons_succ]); try exact rfl
              case hs406 => kernel_rfl
              case hf406 => kernel_rfl
              case hr406 => kernel_rfl
              case hQ406 => exact fun _ _ _ h => h
              case hS406 => assumption
              case hy406 => refine Or.inl ⟨by rfl, ?_⟩; intro w hSw; (try dsimp only at hSw); go_simp; (try with_reducible rfl)
              simp only [Act.put, List.setIfInBounds_toArray, List.set_cons_zero, List.set_cons_succ]
              refine wpAnyH_take (i := 7) (oi := ?oi407) (v := ?v407) ?hi407 ?hs407 ?hf407 ?hr407 ?hQ407 ?hy407 ?hS407 ?hrest407
              case hi407 => (conv => lhs; simp only [List.getElem?_toArray, List.getElem?_cons_zero, List.getElem?_cons_succ]); try exact rfl
              case hs407 => kernel_rfl
              case hf407 => kernel_rfl
              case hr407 => kernel_rfl
              case hQ407 => exact fun _ _ _ h => h
              case hS407 => assumption
              case hy407 => refine Or.inl ⟨by rfl, ?_⟩; intro w hSw; (try dsimp only at hSw); go_simp; (try with_reducible rfl)
              simp only [Act.put, List.setIfInBounds_toArray, List.set_cons_zero, List.set_cons_succ]
              refine wpAnyH_ready (rs := [5, 8]) (by kernel_rfl) (by simp) ?_
              refine AllReadyH.cons (o := ?oi408) ?hi408 (fun K hK => ?_) (AllReadyH.cons (o := ?oi409) ?hi409 (fun K hK => ?_) AllReadyH.nil)
              case hi408 => (conv => lhs; simp only [List.getElem?_toArray, List.getElem?_cons_zero, List.getElem?_cons_succ]); try exact rfl
              case hi409 => (conv => lhs; simp only [List.getElem?_toArray, List.getElem?_cons_zero, List.getElem?_cons_succ]); try exact rfl
              · go_simp
                refine hK.out _ _ hHeld (fun hHeld => ?_)
                clear hK K
                try simp only [Act.put, List.setIfInBounds_toArray, List.set_cons_zero, List.set_cons_succ]
                refine wpAnyH_ready (rs := [8]) (by kernel_rfl) (by simp) ?_
                refine AllReadyH.cons (o := ?oi410) ?hi410 (fun K hK => ?_) AllReadyH.nil
                case hi410 => (conv => lhs; simp only [List.getElem?_toArray, List.getElem?_cons_zero, List.getElem?_cons_succ]); try exact rfl
                go_simp
                refine hK.out _ _ ⟨a0, a1, a2, a3⟩ (fun hHeld410 => ?_)
                clear hK K
                try simp only [Act.put, List.setIfInBounds_toArray, List.set_cons_zero, List.set_cons_succ]
                refine wpAnyH_ready (rs := [9]) (by kernel_rfl) (by simp) ?_
                refine AllReadyH.cons (o := ?oi411) ?hi411 (fun K hK => ?_) AllReadyH.nil
                case hi411 => (conv => lhs; simp only [List.getElem?_toArray, List.getElem?_cons_zero, List.getElem?_cons_succ]); try exact rfl
                go_simp
                go_at_call 56
                refine (insG_any W4.heap.size l.length t _ l ⟨eh, ei, es, ed⟩ w10.heap.size (w10.drew.alloc (.cells #[.int .i64 eh, .int .i64 ei, .string es, .int .i64 ed] 40)) (by omega) htl rfl (by simp; omega) HoA.out OB (fun e => by have := (Ho2.out.lt _ e).2; omega)).mono ?_
                rintro e w12 ⟨v', rfl, own12, hB12, hG12, hbk12⟩
                obtain ⟨gq, cq, rfl⟩ := own_form1 own12 (by omega)
                have O12 := OA.below hB12 l4
                have o0 := O12.get (x := .int .i64 eh) 0 rfl
                have o1 := O12.get (x := .int .i64 ei) 1 rfl
                have o2 := O12.get (x := .string es) 2 rfl
                have o3 := O12.get (x := .int .i64 ed) 3 rfl
                have Y12 := Lib.hid (Y2a.out.kept hG12 (.inr ne1))
                obtain ⟨u12, y12⟩ := own_cell1 Y12.out k (by omega)
                have f12 := own_frozen Y12.out k
                have O13 := O12.grown (only_sc (g := g0) (grown_refl _ _) k (.slice (some ⟨gq, 0, none⟩) (l.length + 1) cq)) ne0
                have p0 := O13.get (x := .int .i64 eh) 0 rfl
                have p1 := O13.get (x := .int .i64 ei) 1 rfl
                have p2 := O13.get (x := .string es) 2 rfl
                have p3 := O13.get (x := .int .i64 ed) 3 rfl
                refine hK.out _ _ ⟨o0, o1, o2, o3⟩ (fun hHeld411 => ?_)
                clear hK K
                try simp only [Act.put, List.setIfInBounds_toArray, List.set_cons_zero, List.set_cons_succ]
                refine wpAnyH_take (i := 10) (oi := ?oi412) (v := ?v412) ?hi412 ?hs412 ?hf412 ?hr412 ?hQ412 ?hy412 ?hS412 ?hrest412
                case hi412 => (conv => lhs; simp only [List.getElem?_toArray, List.getElem?_cons_zero, List.getElem?_cons_succ]); try exact rfl
                case hs412 => kernel_rfl
                case hf412 => kernel_rfl
                case hr412 => kernel_rfl
                case hQ412 => exact fun _ _ _ h => h
                case hS412 => assumption
                case hy412 => refine Or.inl ⟨by rfl, ?_⟩; intro w hSw; (try dsimp only at hSw); go_simp; (try with_reducible rfl)
                simp only [Act.put, List.setIfInBounds_toArray, List.set_cons_zero, List.set_cons_succ]
                refine wpAnyH_ready (rs := [11]) (by kernel_rfl) (by simp) ?_
                refine AllReadyH.cons (o := ?oi413) ?hi413 (fun K hK => ?_) AllReadyH.nil
                case hi413 => (conv => lhs; simp only [List.getElem?_toArray, List.getElem?_cons_zero, List.getElem?_cons_succ]); try exact rfl
                go_simp
                refine hK.out _ _ ⟨p0, p1, p2, p3⟩ (fun hHeld413 => ?_)
                clear hK K
                try simp only [Act.put, List.setIfInBounds_toArray, List.set_cons_zero, List.set_cons_succ]
                refine wpAnyH_done (by kernel_rfl) ?_ _
                obtain ⟨q, hq⟩ : ∃ q : PgD, q = ⟨gq, cq, putE ⟨eh, ei, es, ed⟩ l, l.length + 1, cq⟩ := ⟨_, rfl⟩
                have hqv : q.val = .slice (some ⟨gq, 0, none⟩) (l.length + 1) cq := by rw [hq]; rfl
                have hpe : putE ⟨eh, ei, es, ed⟩ l = l.take t ++ ⟨eh, ei, es, ed⟩ :: l.drop t := by unfold putE; rw [hat.out]
                have hqd : OwnD w12 W4.heap.size q := by
                  rw [hq]
                  refine ⟨?_, by simp only [putE_len]; exact Nat.le_refl _⟩
                  simp only [putE_len]
                  rw [hpe]; exact own12
                have hcq : l.length + 1 ≤ cq := by obtain ⟨_, _, _, h, _⟩ := own_some own12; exact h
                have hkL : k < L.length := by omega
                have HP12 := Lib.hid ((HO8.out.bl (belA (bel0 _).drew (.cells #[.int .i64 eh, .int .i64 ei, .string es, .int .i64 ed] 40))).set hkL (by rw [Hgk.out]; exact hG12) hqd (by
                  rw [hq, Hgk.out]
                  exact hbk12.elim (fun h => .inl (by injection h)) (fun ⟨_, h, h2⟩ => .inr (by injection h with h; subst h; exact h2))))
                have B13 := Lib.hid (belC ((belA (belN B6 hb11).drew (.cells #[.int .i64 eh, .int .i64 ei, .string es, .int .i64 ed] 40)).trans (hB12.mono (Nat.le_of_lt l4))) g0 k (Nat.le_trans (Nat.le_of_lt l4) lg0) (.slice (some ⟨gq, 0, none⟩) (l.length + 1) cq))
                have HP13 := Lib.hid (HP12.out.app Y12.out (show w12.grownBy (w12.setCell ⟨g0, k, none⟩ (.slice (some ⟨gq, 0, none⟩) (l.length + 1) cq)) (some g0) from only_sc (grown_refl _ _) k _))
                have y := own_set Y12.out k q.val
                rw [PV_set, hqv] at y
                have Y13 := Lib.hid y
                clear y x0 x1 x2 x3 a0 a1 a2 a3 o0 o1 o2 o3 p0 p1 p2 p3 y12 f12 O12 O13 OA OB HoA O8 Y2a y2a y2b y2 Y2 Ho2 HO8 hG12 hB12 own12 hbk12 hqd HP12 Y12 hpe
                generalize (w12.setCell ⟨g0, k, none⟩ (.slice (some ⟨gq, 0, none⟩) (l.length + 1) cq)) = w13 at B13 HP13 Y13 ⊢
                have y13 := Y13.out.cellAt k (by omega)
                rw [PV_get _ k (by rw [List.length_set]; omega), List.getElem_set_self, hqv] at y13
                have hpl := putE_len ⟨eh, ei, es, ed⟩ l
                generalize hm : l.length + 1 = m at y13 hqv hcq hpl hq ⊢
                have q0 : (0 : Int) ≤ (k : Int) := by omega
                have q1 : (k : Int) < (j : Int) := by omega
                by_cases h4 : m = 5
                · subst h4
                  have c3 : ¬ (cq = 3) := by omega
                  have c4 : (3 : Int) ≤ (cq : Int) := by omega
                  have c5 : 3 ≤ cq := by omega
                  have hqx : OwnD w13 W4.heap.size q := HP13.out.1 q (List.mem_set hkL q)
                  have hrd := hqx.sub 3
                  rw [hq] at hrd
                  simp only [hpl] at hrd
                  go_wp2_with fail
                  refine (copyEnts_impl (some ⟨gq, 12, none⟩) 2 (cq - 3) ((putE ⟨eh, ei, es, ed⟩ l).drop 3) (by omega) w13 hrd).mono ?_
                  rintro r w14 ⟨v14, rfl, own14, hb14⟩
                  obtain ⟨gr, cr, rfl⟩ := own_form1 own14 (by omega)
                  have lgr := (own_some own14).1
                  have B14 := Lib.hid (belN B13.out hb14)
                  have HP14 := Lib.hid (HP13.out.bl hb14)
                  have Y14 := Lib.hid (own_below Y13.out hb14 (Nat.le_refl _))
                  have l13 : W4.heap.size ≤ w13.heap.size := by have := World.block_lt_of_cell? _ _ y13; simp only at this; omega
                  obtain ⟨rp, hrp⟩ : ∃ q : PgD, q = ⟨gr, cr, (putE ⟨eh, ei, es, ed⟩ l).drop 3, 2, cr⟩ := ⟨_, rfl⟩
                  have hrl : ((putE ⟨eh, ei, es, ed⟩ l).drop 3).length = 2 := by rw [List.length_drop, hpl]
                  have HRP := Lib.hid (show OwnD w14 W4.heap.size rp by
                    rw [hrp]
                    refine ⟨?_, by simp only [hrl]; exact Nat.le_refl _⟩
                    simp only [hrl]
                    exact own_more own14 l13)
                  have hrv : rp.val = .slice (some ⟨gr, 0, none⟩) 2 cr := by rw [hrp]; rfl
                  have HRN := Lib.hid (show ∀ x ∈ L.set k q, x.g ≠ rp.g from fun x hx => by
                    have h1 := (HP13.out.1 x hx).lt.2
                    have h2 := (own_some own14).1
                    rw [hrp]
                    show x.g ≠ gr
                    omega)
                  have y14 := Y14.out.cellAt k (by omega)
                  rw [PV_get _ k (by rw [List.length_set]; omega), List.getElem_set_self, hqv] at y14
                  have f14 := own_frozen Y14.out k
                  obtain ⟨i, hi⟩ : ∃ i, i = k + 1 := ⟨_, rfl⟩
                  have wk : IntKind.i64.wrap ((k : Int) + 1) = (i : Int) := by rw [IntKind.wrap_i64]; omega
                  obtain ⟨q2, hq2⟩ : ∃ q : PgD, q = ⟨gq, cq, putE ⟨eh, ei, es, ed⟩ l, 3, 3⟩ := ⟨_, rfl⟩
                  have hqv2 : q2.val = .slice (some ⟨gq, 0, none⟩) 3 3 := by rw [hq2]; rfl
                  have HP14b := Lib.hid (show OwnP w14 W4.heap.size (L.set k q2) by
                    have h := HP14.out.set (k := k) (q := q2) (by rw [List.length_set]; exact hkL) (grown_refl _ _) (by
                      have h := HP14.out.1 q (List.mem_set hkL q)
                      rw [hq] at h
                      rw [hq2]
                      exact ⟨h.1, by simp only [hpl]; omega⟩) (.inl (by rw [List.getElem_set_self, hq, hq2]))
                    rwa [List.set_set] at h)
                  have HP15 := Lib.hid (HP14b.out.app Y14.out (show w14.grownBy (w14.setCell ⟨g0, k, none⟩ (.slice (some ⟨gq, 0, none⟩) 3 3)) (some g0) from only_sc (grown_refl _ _) k _))
                  have HRP15 := Lib.hid (HRP.out.grownR (show w14.grownBy (w14.setCell ⟨g0, k, none⟩ (.slice (some ⟨gq, 0, none⟩) 3 3)) (some g0) from only_sc (grown_refl _ _) k _) (own_blk Y14.out HRP.out))
                  have y := own_set Y14.out k q2.val
                  rw [PV_set, List.set_set, hqv2] at y
                  have Y15 := Lib.hid y
                  have B15 := Lib.hid (belC B14.out g0 k (Nat.le_trans (Nat.le_of_lt l4) lg0) (.slice (some ⟨gq, 0, none⟩) 3 3))
                  obtain ⟨w15, hw15⟩ : ∃ W, w14.setCell ⟨g0, k, none⟩ (.slice (some ⟨gq, 0, none⟩) 3 3) = W := ⟨_, rfl⟩
                  rw [hw15] at HP15 HRP15 Y15 B15
                  clear y own14 hb14 hrd hqx HP14 HP14b Y14 B14 HRP Y13 HP13 B13 y13
                  have Hq := Lib.hid hq
                  have Hq2 := Lib.hid hq2
                  have Hrp := Lib.hid hrp
                  have Hi := Lib.hid hi
                  have Hhm := Lib.hid hm
                  have i0 : i ≤ 8 := by omega
                  have i1 : i ≤ j := by omega
                  clear hq hq2 hrp hi hm hpl hrl hqv hqv2 c4
                  have c6 : (3 : Int) ≤ (cq : Int) := by omega
                  go_wp2_with fail
                  try rw [hw15]
                  have HW15 := Lib.hid hw15
                  clear y14 f14 hw15
                  have OA15 : Blk (w15.alloc (.cells #[.slice (some ⟨gr, 0, none⟩) 2 cr] 30)) w15.heap.size 30 #[rp.val] := by rw [hrv]; exact Blk.new' _ _ _ _ rfl
                  have lg15 := (Y15.out.lt g0 rfl).2
                  have hbs : W4.heap.size ≤ (w15.alloc (.cells #[.slice (some ⟨gr, 0, none⟩) 2 cr] 30)).heap.size := by rw [World.size_alloc]; omega
                  have YA := Lib.hid (World.ownsRow.alloc Y15.out (.cells #[.slice (some ⟨gr, 0, none⟩) 2 cr] 30))
                  have hls : (L.set k q2).length = j := by rw [List.length_set]; exact hN
                  have hnb : (Value.slice (some ⟨g0, 0, none⟩) j c0).ownBlock ≠ some w15.heap.size := fun e => by have := (Y15.out.lt _ e).2; omega
                  have hj8 : j ≤ 100000 := by omega
                  refine (insP_any W4.heap.size j i (.slice (some ⟨g0, 0, none⟩) j c0) (L.set k q2) rp w15.heap.size (w15.alloc (.cells #[.slice (some ⟨gr, 0, none⟩) 2 cr] 30)) hj8 i1 hls hbs YA.out OA15 hnb).mono ?_
                  rintro r w16 ⟨v16, rfl, own16, hB16, hG16, _⟩
                  have hbw : Below w.heap.size w w16 := (belA B15.out (.cells #[.slice (some ⟨gr, 0, none⟩) 2 cr] 30)).trans (hB16.mono (Nat.le_of_lt l4))
                  have HRN2 : ∀ x ∈ L.set k q2, x.g ≠ rp.g := by
                    intro x hx
                    obtain ⟨n', hn', rfl⟩ := List.mem_iff_getElem.1 hx
                    have hnL : n' < L.length := by rw [List.length_set] at hn'; exact hn'
                    by_cases e : k = n'
                    · subst e
                      have := HRN.out q (List.mem_set hkL q)
                      rw [Hq.out] at this
                      rw [List.getElem_set_self, Hq2.out]
                      exact this
                    · rw [List.getElem_set_ne e]
                      have h3 : (L.set k q)[n']'(by rw [List.length_set]; exact hnL) = L[n'] := List.getElem_set_ne e _
                      rw [← h3]
                      exact HRN.out _ (List.getElem_mem _)
                  have HP16 := Lib.hid (((HP15.out.ins (i := i) HRP15.out HRN2).bl (belA (bel0 _) (.cells #[.slice (some ⟨gr, 0, none⟩) 2 cr] 30))).app YA.out hG16)
                  have hl16 : ((L.set k q2).take i ++ rp :: (L.set k q2).drop i).length = j + 1 := by rw [List.length_append, List.length_cons, List.length_take, List.length_drop, hls]; omega
                  rw [← hl16] at own16
                  obtain ⟨A16, c16, rfl, hpg⟩ := pages_of HP16.out own16
                  have hcn : ((L.set k q2).take i ++ rp :: (L.set k q2).drop i).map PgD.con = partP ps k (putE ⟨eh, ei, es, ed⟩ l) := by
                    unfold partP
                    rw [if_pos (by rw [putE_len]; have := Hhm.out; omega)]
                    rw [Hi.out, List.take_set_succ' L k q2 hkL, List.drop_set_of_lt (show k < k + 1 by omega), List.map_append, List.map_append, List.map_cons, List.map_cons, List.map_nil, List.map_take, List.map_drop, hcon]
                    have e1 : q2.con = (putE ⟨eh, ei, es, ed⟩ l).take 3 := by rw [Hq2.out]; rfl
                    have e2 : rp.con = (putE ⟨eh, ei, es, ed⟩ l).drop 3 := by
                      rw [Hrp.out]
                      exact List.take_of_length_le (by rw [List.length_drop, putE_len]; have := Hhm.out; simp only; omega)
                    rw [e1, e2, List.append_assoc]; rfl
                  rw [hcn] at hpg
                  have HPG := Lib.hid hpg
                  have hpl8 : (partP ps k (putE ⟨eh, ei, es, ed⟩ l)).length = j + 1 := by rw [← hcn, List.length_map, hl16]
                  rw [hl16] at HPG ⊢
                  obtain ⟨J, hJ⟩ : ∃ J, J = j + 1 := ⟨_, rfl⟩
                  have HJ := Lib.hid hJ
                  rw [← hJ] at HPG hpl8 ⊢
                  clear hpg own16 hl16 hcn HP16 HRN2 hB16 hG16 YA hbs hls hnb OA15 hJ HP15 HRP15 Y15 B15 HRN
                  by_cases h8 : 8 < J
                  · have HA := Lib.hid (addPg_full (ps := ps) (e := ⟨eh, ei, es, ed⟩) hf2 h0 Hk.out (by rw [Hgl.out]) (by rw [hpl8]; exact h8))
                    have q9 : ((J : Nat) : Int) > 8 := by omega
                    clear hpl8
                    go_wp2_with fail
                    refine (copyPages_impl A j c ps (by omega) (fun l hl => by have := hz4 l hl; omega) w16 (Hp.out _ hbw)).mono ?_
                    rintro r w17 ⟨v17, L17, rfl, hcon17, _, hO17, hown17, hb17⟩
                    obtain ⟨A17, c17, rfl, hpg17⟩ := pages_of hO17 hown17
                    rw [hcon17] at hpg17
                    have HPG17 := Lib.hid hpg17
                    have B17 := belN hbw hb17
                    clear hO17 hown17 hpg17
                    go_wp2
                    refine bodyPost_ret (v := .tuple #[.slice A17 L17.length c17, .bool false]) (by simp [results, Tryz.results29, go_sem]) rfl ⟨A17, L17.length, c17, ps, false, rfl, HA.out, HPG17.out.mono hbw.size, B17⟩
                  · have HA := Lib.hid (addPg_yes (ps := ps) (e := ⟨eh, ei, es, ed⟩) hf2 h0 Hk.out (by rw [Hgl.out]) (by rw [hpl8]; exact h8))
                    have q9 : ¬ (((J : Nat) : Int) > 8) := by omega
                    clear hpl8
                    go_wp2
                    refine bodyPost_ret (v := .tuple #[.slice A16 J c16, .bool true]) (by simp [results, Tryz.results29, go_sem]) rfl ⟨A16, J, c16, _, true, rfl, HA.out, HPG.out.mono (Nat.le_of_lt l4), hbw⟩
                · have hm4 : ¬ ((m : Int) > 4) := by omega
                  have Hhm := Lib.hid hm
                  have Hq := Lib.hid hq
                  have hsl : (L.set k q).length = j := by rw [List.length_set]; exact hN
                  have hpg := HP13.out.pages (g := g0) (c := c0) (by rw [hsl]; exact Y13.out)
                  rw [hsl] at hpg
                  have hcn : (L.set k q).map PgD.con = ps.set k (putE ⟨eh, ei, es, ed⟩ l) := by
                    rw [List.map_set, hcon]
                    congr 1
                    rw [Hq.out]
                    exact List.take_of_length_le (by rw [putE_len]; have := Hhm.out; simp only; omega)
                  have hpp : partP ps k (putE ⟨eh, ei, es, ed⟩ l) = ps.set k (putE ⟨eh, ei, es, ed⟩ l) := by unfold partP; rw [if_neg (by rw [putE_len]; omega)]
                  rw [hcn, ← hpp] at hpg
                  have HPG := Lib.hid hpg
                  have HA := Lib.hid (addPg_yes (ps := ps) (e := ⟨eh, ei, es, ed⟩) hf2 h0 Hk.out (by rw [Hgl.out]) (by rw [hpp, List.length_set]; omega))
                  have q9 : ¬ ((j : Int) > 8) := by omega
                  have m4 : ¬ (m > 4) := by omega
                  have j8 : ¬ (j > 8) := by omega
                  clear hpg hcn hpp hsl hm hq hpl hqv
                  go_wp2
                  refine bodyPost_ret (v := .tuple #[.slice (some ⟨g0, 0, none⟩) j c0, .bool true]) (by simp [results, Tryz.results29, go_sem]) rfl ⟨_, j, c0, _, true, rfl, HA.out, HPG.out.mono (Nat.le_of_lt l4), B13.out⟩
              · go_simp
                refine hK.out _ _ ⟨a0, a1, a2, a3⟩ (fun hHeld => ?_)
                clear hK K
                try simp only [Act.put, List.setIfInBounds_toArray, List.set_cons_zero, List.set_cons_succ]
                refine wpAnyH_ready (rs := [5]) (by kernel_rfl) (by simp) ?_
                refine AllReadyH.cons (o := ?oi414) ?hi414 (fun K hK => ?_) AllReadyH.nil
                case hi414 => (conv => lhs; simp only [List.getElem?_toArray, List.getElem?_cons_zero, List.getElem?_cons_succ]); try exact rfl
                go_simp
                refine hK.out _ _ ⟨a0, a1, a2, a3⟩ (fun hHeld414 => ?_)
                clear hK K
                try simp only [Act.put, List.setIfInBounds_toArray, List.set_cons_zero, List.set_cons_succ]
                refine wpAnyH_ready (rs := [9]) (by kernel_rfl) (by simp) ?_
                refine AllReadyH.cons (o := ?oi415) ?hi415 (fun K hK => ?_) AllReadyH.nil
                case hi415 => (conv => lhs; simp only [List.getElem?_toArray, List.getElem?_cons_zero, List.getElem?_cons_succ]); try exact rfl
                go_simp
                go_at_call 56
                refine (insG_any W4.heap.size l.length t _ l ⟨eh, ei, es, ed⟩ w10.heap.size (w10.drew.alloc (.cells #[.int .i64 eh, .int .i64 ei, .string es, .int .i64 ed] 40)) (by omega) htl rfl (by simp; omega) HoA.out OB (fun e => by have := (Ho2.out.lt _ e).2; omega)).mono ?_
                rintro e w12 ⟨v', rfl, own12, hB12, hG12, hbk12⟩
                obtain ⟨gq, cq, rfl⟩ := own_form1 own12 (by omega)
                have O12 := OA.below hB12 l4
                have o0 := O12.get (x := .int .i64 eh) 0 rfl
                have o1 := O12.get (x := .int .i64 ei) 1 rfl
                have o2 := O12.get (x := .string es) 2 rfl
                have o3 := O12.get (x := .int .i64 ed) 3 rfl
                have Y12 := Lib.hid (Y2a.out.kept hG12 (.inr ne1))
                obtain ⟨u12, y12⟩ := own_cell1 Y12.out k (by omega)
                have f12 := own_frozen Y12.out k
                have O13 := O12.grown (only_sc (g := g0) (grown_refl _ _) k (.slice (some ⟨gq, 0, none⟩) (l.length + 1) cq)) ne0
                have p0 := O13.get (x := .int .i64 eh) 0 rfl
                have p1 := O13.get (x := .int .i64 ei) 1 rfl
                have p2 := O13.get (x := .string es) 2 rfl
                have p3 := O13.get (x := .int .i64 ed) 3 rfl
                refine hK.out _ _ ⟨o0, o1, o2, o3⟩ (fun hHeld415 => ?_)
                clear hK K
                try simp only [Act.put, List.setIfInBounds_toArray, List.set_cons_zero, List.set_cons_succ]
                refine wpAnyH_take (i := 10) (oi := ?oi416) (v := ?v416) ?hi416 ?hs416 ?hf416 ?hr416 ?hQ416 ?hy416 ?hS416 ?hrest416
                case hi416 => (conv => lhs; simp only [List.getElem?_toArray, List.getElem?_cons_zero, List.getElem?_cons_succ]); try exact rfl
                case hs416 => kernel_rfl
                case hf416 => kernel_rfl
                case hr416 => kernel_rfl
                case hQ416 => exact fun _ _ _ h => h
                case hS416 => assumption
                case hy416 => refine Or.inl ⟨by rfl, ?_⟩; intro w hSw; (try dsimp only at hSw); go_simp; (try with_reducible rfl)
                simp only [Act.put, List.setIfInBounds_toArray, List.set_cons_zero, List.set_cons_succ]
                refine wpAnyH_ready (rs := [11]) (by kernel_rfl) (by simp) ?_
                refine AllReadyH.cons (o := ?oi417) ?hi417 (fun K hK => ?_) AllReadyH.nil
                case hi417 => (conv => lhs; simp only [List.getElem?_toArray, List.getElem?_cons_zero, List.getElem?_cons_succ]); try exact rfl
                go_simp
                refine hK.out _ _ ⟨p0, p1, p2, p3⟩ (fun hHeld417 => ?_)
                clear hK K
                try simp only [Act.put, List.setIfInBounds_toArray, List.set_cons_zero, List.set_cons_succ]
                refine wpAnyH_done (by kernel_rfl) ?_ _
                obtain ⟨q, hq⟩ : ∃ q : PgD, q = ⟨gq, cq, putE ⟨eh, ei, es, ed⟩ l, l.length + 1, cq⟩ := ⟨_, rfl⟩
                have hqv : q.val = .slice (some ⟨gq, 0, none⟩) (l.length + 1) cq := by rw [hq]; rfl
                have hpe : putE ⟨eh, ei, es, ed⟩ l = l.take t ++ ⟨eh, ei, es, ed⟩ :: l.drop t := by unfold putE; rw [hat.out]
                have hqd : OwnD w12 W4.heap.size q := by
                  rw [hq]
                  refine ⟨?_, by simp only [putE_len]; exact Nat.le_refl _⟩
                  simp only [putE_len]
                  rw [hpe]; exact own12
                have hcq : l.length + 1 ≤ cq := by obtain ⟨_, _, _, h, _⟩ := own_some own12; exact h
                have hkL : k < L.length := by omega
                have HP12 := Lib.hid ((HO8.out.bl (belA (bel0 _).drew (.cells #[.int .i64 eh, .int .i64 ei, .string es, .int .i64 ed] 40))).set hkL (by rw [Hgk.out]; exact hG12) hqd (by
                  rw [hq, Hgk.out]
                  exact hbk12.elim (fun h => .inl (by injection h)) (fun ⟨_, h, h2⟩ => .inr (by injection h with h; subst h; exact h2))))
                have B13 := Lib.hid (belC ((belA (belN B6 hb11).drew (.cells #[.int .i64 eh, .int .i64 ei, .string es, .int .i64 ed] 40)).trans (hB12.mono (Nat.le_of_lt l4))) g0 k (Nat.le_trans (Nat.le_of_lt l4) lg0) (.slice (some ⟨gq, 0, none⟩) (l.length + 1) cq))
                have HP13 := Lib.hid (HP12.out.app Y12.out (show w12.grownBy (w12.setCell ⟨g0, k, none⟩ (.slice (some ⟨gq, 0, none⟩) (l.length + 1) cq)) (some g0) from only_sc (grown_refl _ _) k _))
                have y := own_set Y12.out k q.val
                rw [PV_set, hqv] at y
                have Y13 := Lib.hid y
                clear y x0 x1 x2 x3 a0 a1 a2 a3 o0 o1 o2 o3 p0 p1 p2 p3 y12 f12 O12 O13 OA OB HoA O8 Y2a y2a y2b y2 Y2 Ho2 HO8 hG12 hB12 own12 hbk12 hqd HP12 Y12 hpe
                generalize (w12.setCell ⟨g0, k, none⟩ (.slice (some ⟨gq, 0, none⟩) (l.length + 1) cq)) = w13 at B13 HP13 Y13 ⊢
                have y13 := Y13.out.cellAt k (by omega)
                rw [PV_get _ k (by rw [List.length_set]; omega), List.getElem_set_self, hqv] at y13
                have hpl := putE_len ⟨eh, ei, es, ed⟩ l
                generalize hm : l.length + 1 = m at y13 hqv hcq hpl hq ⊢
                have q0 : (0 : Int) ≤ (k : Int) := by omega
                have q1 : (k : Int) < (j : Int) := by omega
                by_cases h4 : m = 5
                · subst h4
                  have c3 : ¬ (cq = 3) := by omega
                  have c4 : (3 : Int) ≤ (cq : Int) := by omega
                  have c5 : 3 ≤ cq := by omega
                  have hqx : OwnD w13 W4.heap.size q := HP13.out.1 q (List.mem_set hkL q)
                  have hrd := hqx.sub 3
                  rw [hq] at hrd
                  simp only [hpl] at hrd
                  go_wp2_with fail
                  refine (copyEnts_impl (some ⟨gq, 12, none⟩) 2 (cq - 3) ((putE ⟨eh, ei, es, ed⟩ l).drop 3) (by omega) w13 hrd).mono ?_
                  rintro r w14 ⟨v14, rfl, own14, hb14⟩
                  obtain ⟨gr, cr, rfl⟩ := own_form1 own14 (by omega)
                  have lgr := (own_some own14).1
                  have B14 := Lib.hid (belN B13.out hb14)
                  have HP14 := Lib.hid (HP13.out.bl hb14)
                  have Y14 := Lib.hid (own_below Y13.out hb14 (Nat.le_refl _))
                  have l13 : W4.heap.size ≤ w13.heap.size := by have := World.block_lt_of_cell? _ _ y13; simp only at this; omega
                  obtain ⟨rp, hrp⟩ : ∃ q : PgD, q = ⟨gr, cr, (putE ⟨eh, ei, es, ed⟩ l).drop 3, 2, cr⟩ := ⟨_, rfl⟩
                  have hrl : ((putE ⟨eh, ei, es, ed⟩ l).drop 3).length = 2 := by rw [List.length_drop, hpl]
                  have HRP := Lib.hid (show OwnD w14 W4.heap.size rp by
                    rw [hrp]
                    refine ⟨?_, by simp only [hrl]; exact Nat.le_refl _⟩
                    simp only [hrl]
                    exact own_more own14 l13)
                  have hrv : rp.val = .slice (some ⟨gr, 0, none⟩) 2 cr := by rw [hrp]; rfl
                  have HRN := Lib.hid (show ∀ x ∈ L.set k q, x.g ≠ rp.g from fun x hx => by
                    have h1 := (HP13.out.1 x hx).lt.2
                    have h2 := (own_some own14).1
                    rw [hrp]
                    show x.g ≠ gr
                    omega)
                  have y14 := Y14.out.cellAt k (by omega)
                  rw [PV_get _ k (by rw [List.length_set]; omega), List.getElem_set_self, hqv] at y14
                  have f14 := own_frozen Y14.out k
                  obtain ⟨i, hi⟩ : ∃ i, i = k + 1 := ⟨_, rfl⟩
                  have wk : IntKind.i64.wrap ((k : Int) + 1) = (i : Int) := by rw [IntKind.wrap_i64]; omega
                  obtain ⟨q2, hq2⟩ : ∃ q : PgD, q = ⟨gq, cq, putE ⟨eh, ei, es, ed⟩ l, 3, 3⟩ := ⟨_, rfl⟩
                  have hqv2 : q2.val = .slice (some ⟨gq, 0, none⟩) 3 3 := by rw [hq2]; rfl
                  have HP14b := Lib.hid (show OwnP w14 W4.heap.size (L.set k q2) by
                    have h := HP14.out.set (k := k) (q := q2) (by rw [List.length_set]; exact hkL) (grown_refl _ _) (by
                      have h := HP14.out.1 q (List.mem_set hkL q)
                      rw [hq] at h
                      rw [hq2]
                      exact ⟨h.1, by simp only [hpl]; omega⟩) (.inl (by rw [List.getElem_set_self, hq, hq2]))
                    rwa [List.set_set] at h)
                  have HP15 := Lib.hid (HP14b.out.app Y14.out (show w14.grownBy (w14.setCell ⟨g0, k, none⟩ (.slice (some ⟨gq, 0, none⟩) 3 3)) (some g0) from only_sc (grown_refl _ _) k _))
                  have HRP15 := Lib.hid (HRP.out.grownR (show w14.grownBy (w14.setCell ⟨g0, k, none⟩ (.slice (some ⟨gq, 0, none⟩) 3 3)) (some g0) from only_sc (grown_refl _ _) k _) (own_blk Y14.out HRP.out))
                  have y := own_set Y14.out k q2.val
                  rw [PV_set, List.set_set, hqv2] at y
                  have Y15 := Lib.hid y
                  have B15 := Lib.hid (belC B14.out g0 k (Nat.le_trans (Nat.le_of_lt l4) lg0) (.slice (some ⟨gq, 0, none⟩) 3 3))
                  obtain ⟨w15, hw15⟩ : ∃ W, w14.setCell ⟨g0, k, none⟩ (.slice (some ⟨gq, 0, none⟩) 3 3) = W := ⟨_, rfl⟩
                  rw [hw15] at HP15 HRP15 Y15 B15
                  clear y own14 hb14 hrd hqx HP14 HP14b Y14 B14 HRP Y13 HP13 B13 y13
                  have Hq := Lib.hid hq
                  have Hq2 := Lib.hid hq2
                  have Hrp := Lib.hid hrp
                  have Hi := Lib.hid hi
                  have Hhm := Lib.hid hm
                  have i0 : i ≤ 8 := by omega
                  have i1 : i ≤ j := by omega
                  clear hq hq2 hrp hi hm hpl hrl hqv hqv2 c4
                  have c6 : (3 : Int) ≤ (cq : Int) := by omega
                  go_wp2_with fail
                  try rw [hw15]
                  have HW15 := Lib.hid hw15
                  clear y14 f14 hw15
                  have OA15 : Blk (w15.alloc (.cells #[.slice (some ⟨gr, 0, none⟩) 2 cr] 30)) w15.heap.size 30 #[rp.val] := by rw [hrv]; exact Blk.new' _ _ _ _ rfl
                  have lg15 := (Y15.out.lt g0 rfl).2
                  have hbs : W4.heap.size ≤ (w15.alloc (.cells #[.slice (some ⟨gr, 0, none⟩) 2 cr] 30)).heap.size := by rw [World.size_alloc]; omega
                  have YA := Lib.hid (World.ownsRow.alloc Y15.out (.cells #[.slice (some ⟨gr, 0, none⟩) 2 cr] 30))
                  have hls : (L.set k q2).length = j := by rw [List.length_set]; exact hN
                  have hnb : (Value.slice (some ⟨g0, 0, none⟩) j c0).ownBlock ≠ some w15.heap.size := fun e => by have := (Y15.out.lt _ e).2; omega
                  have hj8 : j ≤ 100000 := by omega
                  refine (insP_any W4.heap.size j i (.slice (some ⟨g0, 0, none⟩) j c0) (L.set k q2) rp w15.heap.size (w15.alloc (.cells #[.slice (some ⟨gr, 0, none⟩) 2 cr] 30)) hj8 i1 hls hbs YA.out OA15 hnb).mono ?_
                  rintro r w16 ⟨v16, rfl, own16, hB16, hG16, _⟩
                  have hbw : Below w.heap.size w w16 := (belA B15.out (.cells #[.slice (some ⟨gr, 0, none⟩) 2 cr] 30)).trans (hB16.mono (Nat.le_of_lt l4))
                  have HRN2 : ∀ x ∈ L.set k q2, x.g ≠ rp.g := by
                    intro x hx
                    obtain ⟨n', hn', rfl⟩ := List.mem_iff_getElem.1 hx
                    have hnL : n' < L.length := by rw [List.length_set] at hn'; exact hn'
                    by_cases e : k = n'
                    · subst e
                      have := HRN.out q (List.mem_set hkL q)
                      rw [Hq.out] at this
                      rw [List.getElem_set_self, Hq2.out]
                      exact this
                    · rw [List.getElem_set_ne e]
                      have h3 : (L.set k q)[n']'(by rw [List.length_set]; exact hnL) = L[n'] := List.getElem_set_ne e _
                      rw [← h3]
                      exact HRN.out _ (List.getElem_mem _)
                  have HP16 := Lib.hid (((HP15.out.ins (i := i) HRP15.out HRN2).bl (belA (bel0 _) (.cells #[.slice (some ⟨gr, 0, none⟩) 2 cr] 30))).app YA.out hG16)
                  have hl16 : ((L.set k q2).take i ++ rp :: (L.set k q2).drop i).length = j + 1 := by rw [List.length_append, List.length_cons, List.length_take, List.length_drop, hls]; omega
                  rw [← hl16] at own16
                  obtain ⟨A16, c16, rfl, hpg⟩ := pages_of HP16.out own16
                  have hcn : ((L.set k q2).take i ++ rp :: (L.set k q2).drop i).map PgD.con = partP ps k (putE ⟨eh, ei, es, ed⟩ l) := by
                    unfold partP
                    rw [if_pos (by rw [putE_len]; have := Hhm.out; omega)]
                    rw [Hi.out, List.take_set_succ' L k q2 hkL, List.drop_set_of_lt (show k < k + 1 by omega), List.map_append, List.map_append, List.map_cons, List.map_cons, List.map_nil, List.map_take, List.map_drop, hcon]
                    have e1 : q2.con = (putE ⟨eh, ei, es, ed⟩ l).take 3 := by rw [Hq2.out]; rfl
                    have e2 : rp.con = (putE ⟨eh, ei, es, ed⟩ l).drop 3 := by
                      rw [Hrp.out]
                      exact List.take_of_length_le (by rw [List.length_drop, putE_len]; have := Hhm.out; simp only; omega)
                    rw [e1, e2, List.append_assoc]; rfl
                  rw [hcn] at hpg
                  have HPG := Lib.hid hpg
                  have hpl8 : (partP ps k (putE ⟨eh, ei, es, ed⟩ l)).length = j + 1 := by rw [← hcn, List.length_map, hl16]
                  rw [hl16] at HPG ⊢
                  obtain ⟨J, hJ⟩ : ∃ J, J = j + 1 := ⟨_, rfl⟩
                  have HJ := Lib.hid hJ
                  rw [← hJ] at HPG hpl8 ⊢
                  clear hpg own16 hl16 hcn HP16 HRN2 hB16 hG16 YA hbs hls hnb OA15 hJ HP15 HRP15 Y15 B15 HRN
                  by_cases h8 : 8 < J
                  · have HA := Lib.hid (addPg_full (ps := ps) (e := ⟨eh, ei, es, ed⟩) hf2 h0 Hk.out (by rw [Hgl.out]) (by rw [hpl8]; exact h8))
                    have q9 : ((J : Nat) : Int) > 8 := by omega
                    clear hpl8
                    go_wp2_with fail
                    refine (copyPages_impl A j c ps (by omega) (fun l hl => by have := hz4 l hl; omega) w16 (Hp.out _ hbw)).mono ?_
                    rintro r w17 ⟨v17, L17, rfl, hcon17, _, hO17, hown17, hb17⟩
                    obtain ⟨A17, c17, rfl, hpg17⟩ := pages_of hO17 hown17
                    rw [hcon17] at hpg17
                    have HPG17 := Lib.hid hpg17
                    have B17 := belN hbw hb17
                    clear hO17 hown17 hpg17
                    go_wp2
                    refine bodyPost_ret (v := .tuple #[.slice A17 L17.length c17, .bool false]) (by simp [results, Tryz.results29, go_sem]) rfl ⟨A17, L17.length, c17, ps, false, rfl, HA.out, HPG17.out.mono hbw.size, B17⟩
                  · have HA := Lib.hid (addPg_yes (ps := ps) (e := ⟨eh, ei, es, ed⟩) hf2 h0 Hk.out (by rw [Hgl.out]) (by rw [hpl8]; exact h8))
                    have q9 : ¬ (((J : Nat) : Int) > 8) := by omega
                    clear hpl8
                    go_wp2
                    refine bodyPost_ret (v := .tuple #[.slice A16 J c16, .bool true]) (by simp [results, Tryz.results29, go_sem]) rfl ⟨A16, J, c16, _, true, rfl, HA.out, HPG.out.mono (Nat.le_of_lt l4), hbw⟩
                · have hm4 : ¬ ((m : Int) > 4) := by omega
                  have Hhm := Lib.hid hm
                  have Hq := Lib.hid hq
                  have hsl : (L.set k q).length = j := by rw [List.length_set]; exact hN
                  have hpg := HP13.out.pages (g := g0) (c := c0) (by rw [hsl]; exact Y13.out)
                  rw [hsl] at hpg
                  have hcn : (L.set k q).map PgD.con = ps.set k (putE ⟨eh, ei, es, ed⟩ l) := by
                    rw [List.map_set, hcon]
                    congr 1
                    rw [Hq.out]
                    exact List.take_of_length_le (by rw [putE_len]; have := Hhm.out; simp only; omega)
                  have hpp : partP ps k (putE ⟨eh, ei, es, ed⟩ l) = ps.set k (putE ⟨eh, ei, es, ed⟩ l) := by unfold partP; rw [if_neg (by rw [putE_len]; omega)]
                  rw [hcn, ← hpp] at hpg
                  have HPG := Lib.hid hpg
                  have HA := Lib.hid (addPg_yes (ps := ps) (e := ⟨eh, ei, es, ed⟩) hf2 h0 Hk.out (by rw [Hgl.out]) (by rw [hpp, List.length_set]; omega))
                  have q9 : ¬ ((j : Int) > 8) := by omega
                  have m4 : ¬ (m > 4) := by omega
                  have j8 : ¬ (j > 8) := by omega
                  clear hpg hcn hpp hsl hm hq hpl hqv
                  go_wp2
                  refine bodyPost_ret (v := .tuple #[.slice (some ⟨g0, 0, none⟩) j c0, .bool true]) (by simp [results, Tryz.results29, go_sem]) rfl ⟨_, j, c0, _, true, rfl, HA.out, HPG.out.mono (Nat.le_of_lt l4), B13.out⟩

end Go.Proofs.YtbchbmcphbeikaaGreatDoor
