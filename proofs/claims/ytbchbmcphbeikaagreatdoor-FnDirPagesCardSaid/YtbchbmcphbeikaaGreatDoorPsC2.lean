/- The reference's PgAdd on right pages: some pages of one's own. -/
import Derived.Test.YtbchbmcphbeikaaGreatDoorPsA
import Derived.Test.YtbchbmcphbeikaaGreatDoorChg
import Derived.Test.YtbchbmcphbeikaaGreatDoorDirK
import Derived.Test.YtbchbmcphbeikaaGreatDoorPgAdd
import Derived.Test.YtbchbmcphbeikaaGreatDoorPgFind2
import Derived.Deep.RegionHeld3
import Derived.StillTailTactics
import Derived.BigQuiet
namespace Go.Proofs.YtbchbmcphbeikaaGreatDoor
open Go Go.RowKit

/-- Pages of one's own, few and small, none of them empty. -/
def SmL (N : Nat) (L : List PgD) : Prop := L.length ≤ 9 ∧ ∀ p ∈ L, 1 ≤ p.con.length ∧ p.con.length ≤ 5 ∧ ∀ x ∈ p.con, x.s.size ≤ N
def PgOut (N lo : Nat) (r : Ending) (w' : World) : Prop := ∃ (v : Value) (L : List PgD) (b : Bool), r = .returned (.tuple #[v, .bool b]) ∧ OwnP w' lo L ∧ w'.ownsRow lo 30 1 v L.length (PV L) ∧ SmL N L
theorem pgOut_end {N lo m : Nat} {v u : Value} {L : List PgD} {b : Bool} {w' : World} (hv : v = .tuple #[u, .bool b]) (h1 : OwnP w' lo L) (hm : L.length = m) (h2 : w'.ownsRow lo 30 1 u m (PV L)) (h3 : SmL N L) : PgOut N lo (.returned v) w' := ⟨u, L, b, by rw [hv], h1, by rw [hm]; exact h2, h3⟩
theorem OwnP.more {w : World} {lo lo' : Nat} {L : List PgD} (h : OwnP w lo L) (hl : lo' ≤ lo) : OwnP w lo' L := ⟨fun p hp => (h.1 p hp).more hl, h.2⟩
theorem smL_of {N : Nat} {ps : List (List EntD)} {L : List PgD} (hok : okPB ps = true) (hz : ∀ l ∈ ps, ∀ x ∈ l, x.s.size ≤ N) (hcon : L.map PgD.con = ps) : SmL N L := by
  obtain ⟨h8, h4, _⟩ := ok_small hok
  have hl := congrArg List.length hcon
  rw [List.length_map] at hl
  refine ⟨by omega, fun p hp => ?_⟩
  have hm : p.con ∈ ps := by rw [← hcon]; exact List.mem_map_of_mem hp
  have := h4 _ hm
  exact ⟨this.1, by omega, hz _ hm⟩

theorem pgOut_one {N lo : Nat} (w : World) (eh ei : Int) (es : ByteArray) (ed : Int) (hlo : lo ≤ w.heap.size) (he : es.size ≤ N) :
    PgOut N lo (.returned (.tuple #[.slice (some ⟨w.heap.size + 1, 0, none⟩) 1 1, .bool true])) ((w.alloc (.cells #[.int .i64 eh, .int .i64 ei, .string es, .int .i64 ed] 40)).alloc (.cells #[.slice (some ⟨w.heap.size, 0, none⟩) 1 1] 30)) := by
  have h1 : Blk (w.alloc (.cells #[.int .i64 eh, .int .i64 ei, .string es, .int .i64 ed] 40)) w.heap.size 40 #[.int .i64 eh, .int .i64 ei, .string es, .int .i64 ed] := Blk.new' _ _ _ _ rfl
  have h2 : Blk ((w.alloc (.cells #[.int .i64 eh, .int .i64 ei, .string es, .int .i64 ed] 40)).alloc (.cells #[.slice (some ⟨w.heap.size, 0, none⟩) 1 1] 30)) (w.heap.size + 1) 30 #[.slice (some ⟨w.heap.size, 0, none⟩) 1 1] := Blk.new' _ _ _ _ (by simp)
  refine pgOut_end (L := [⟨w.heap.size, 1, [⟨eh, ei, es, ed⟩], 1, 1⟩]) rfl ⟨fun p hp => ?_, by simp⟩ rfl (own_of_heap (Nat.le_succ_of_le hlo) h2 (Nat.le_refl 1) (by unfold maxLen; omega) rfl rfl) ⟨by simp, fun p hp => ?_⟩
  · rw [List.mem_singleton] at hp; subst hp
    exact ⟨own_of_heap hlo (h1.alloc _) (Nat.le_refl 1) (show (1 : Nat) ≤ maxLen by unfold maxLen; omega) rfl rfl, Nat.le_refl _⟩
  · rw [List.mem_singleton] at hp; subst hp
    exact ⟨by simp [PgD.con], by simp [PgD.con], fun x hx => by simp [PgD.con] at hx; subst hx; exact he⟩

theorem memo_nw {G P : (Nat) → (World) → Prop} {R : Prop} (use : (∀ (x0 : Nat) (x1 : World), P x0 x1 → G x0 x1) → R) (key : ∀ (x0 : Nat) (x1 : World), P x0 x1 → G x0 x1) : R := use key
theorem memo_nnnw {G P : (Nat) → (Nat) → (Nat) → (World) → Prop} {R : Prop} (use : (∀ (x0 : Nat) (x1 : Nat) (x2 : Nat) (x3 : World), P x0 x1 x2 x3 → G x0 x1 x2 x3) → R) (key : ∀ (x0 : Nat) (x1 : Nat) (x2 : Nat) (x3 : World), P x0 x1 x2 x3 → G x0 x1 x2 x3) : R := use key
theorem memo_nnw {G P : (Nat) → (Nat) → (World) → Prop} {R : Prop} (use : (∀ (x0 : Nat) (x1 : Nat) (x2 : World), P x0 x1 x2 → G x0 x1 x2) → R) (key : ∀ (x0 : Nat) (x1 : Nat) (x2 : World), P x0 x1 x2 → G x0 x1 x2) : R := use key
theorem memo_nnnnw {G P : (Nat) → (Nat) → (Nat) → (Nat) → (World) → Prop} {R : Prop} (use : (∀ (x0 : Nat) (x1 : Nat) (x2 : Nat) (x3 : Nat) (x4 : World), P x0 x1 x2 x3 x4 → G x0 x1 x2 x3 x4) → R) (key : ∀ (x0 : Nat) (x1 : Nat) (x2 : Nat) (x3 : Nat) (x4 : World), P x0 x1 x2 x3 x4 → G x0 x1 x2 x3 x4) : R := use key
theorem memo_nnnnnnw {G P : (Nat) → (Nat) → (Nat) → (Nat) → (Nat) → (Nat) → (World) → Prop} {R : Prop} (use : (∀ (x0 : Nat) (x1 : Nat) (x2 : Nat) (x3 : Nat) (x4 : Nat) (x5 : Nat) (x6 : World), P x0 x1 x2 x3 x4 x5 x6 → G x0 x1 x2 x3 x4 x5 x6) → R) (key : ∀ (x0 : Nat) (x1 : Nat) (x2 : Nat) (x3 : Nat) (x4 : Nat) (x5 : Nat) (x6 : World), P x0 x1 x2 x3 x4 x5 x6 → G x0 x1 x2 x3 x4 x5 x6) : R := use key
theorem memo_nnnnnnnnnw {G P : (Nat) → (Nat) → (Nat) → (Nat) → (Nat) → (Nat) → (Nat) → (Nat) → (Nat) → (World) → Prop} {R : Prop} (use : (∀ (x0 : Nat) (x1 : Nat) (x2 : Nat) (x3 : Nat) (x4 : Nat) (x5 : Nat) (x6 : Nat) (x7 : Nat) (x8 : Nat) (x9 : World), P x0 x1 x2 x3 x4 x5 x6 x7 x8 x9 → G x0 x1 x2 x3 x4 x5 x6 x7 x8 x9) → R) (key : ∀ (x0 : Nat) (x1 : Nat) (x2 : Nat) (x3 : Nat) (x4 : Nat) (x5 : Nat) (x6 : Nat) (x7 : Nat) (x8 : Nat) (x9 : World), P x0 x1 x2 x3 x4 x5 x6 x7 x8 x9 → G x0 x1 x2 x3 x4 x5 x6 x7 x8 x9) : R := use key

set_option maxRecDepth 100000 in
set_option maxHeartbeats 2000000 in
theorem pgAdd_spec (N : Nat) (A : Option Addr) (n c : Nat) (ps : List (List EntD)) (eh ei : Int) (es : ByteArray) (ed : Int) (hok : okPB ps = true) (hzN : ∀ l ∈ ps, ∀ x ∈ l, x.s.size ≤ N) (heN : es.size ≤ N) (w : World) (hr : PagesAt w w.heap.size A n ps) :
    Calls Tryz.prog 73 #[.slice A n c, .agg #[.int .i64 eh, .int .i64 ei, .string es, .int .i64 ed]] w fun r w' => PgOut N w.heap.size r w' ∧ Below w.heap.size w w' := by
  have hl := hr.len
  obtain ⟨h8, hz4, hz⟩ := ok_small hok
  have Hp := Lib.hid (fun W (hb : Below w.heap.size w W) => (hr.below hb).more hb.size)
  have HzN := Lib.hid hzN
  clear hr hzN
  obtain ⟨W1, hW1⟩ : ∃ W, w.alloc (.cells #[.int .i64 eh, .int .i64 ei, .string es, .int .i64 ed] 40) = W := ⟨_, rfl⟩
  have O1 : Blk W1 w.heap.size 40 #[.int .i64 eh, .int .i64 ei, .string es, .int .i64 ed] := by rw [← hW1]; exact Blk.new' _ _ _ _ rfl
  have B1 : Below w.heap.size w W1 := by rw [← hW1]; exact belA (bel0 _) _
  have HW1 := Lib.hid hW1
  clear hW1
  go_enter Tryz.func73, Tryz.ntmps73
  go_wp2_with fail
  rw [HW1.out]
  refine (pagesOk_spec A n c ps hz (by omega) W1 (Hp.out _ B1)).mono ?_
  rintro r w2 ⟨rfl, hb2⟩
  rw [hok]
  have B2 := belN B1 hb2
  have O2 := O1.below hb2 O1.lt
  clear B1 O1 hb2
  go_wp2_with fail
  refine (l18Copy_any A n c ps (by omega) (fun l hl => by have := hz4 l hl; omega) w2 (Hp.out _ B2)).mono ?_
  rintro r w3 ⟨v, L, rfl, hcon, hfull, hO, hown, hb3⟩
  obtain ⟨Ax, cx, rfl, _, _, _⟩ := own_vals hown
  have hLl : L.length = n := by rw [← hl, ← hcon, List.length_map]
  rw [hLl] at hown ⊢
  have B3 := belN B2 hb3
  have O3 := O2.below hb3 O2.lt
  have HO := Lib.hid (hO.more B2.size)
  have Own := Lib.hid (own_more hown B2.size)
  have HSm := Lib.hid (smL_of hok HzN.out hcon)
  clear O2 hO hown B2 hb3
  have x0 := O3.get (x := .int .i64 eh) 0 rfl
  have x1 := O3.get (x := .int .i64 ei) 1 rfl
  have lO := O3.lt
  go_wp2_with fail
  refine (l18At_any A n c ps eh ei (fun l hl => by have := hz4 l hl; omega) (by omega) w3 (Hp.out _ B3)).mono ?_
  rintro r w4 ⟨rfl, hcase⟩
  rcases hcase with ⟨i, k, hi, hk, rfl, _⟩ | ⟨rfl, hf⟩
  · have q0 : (0 : Int) ≤ (i : Int) := by omega
    go_wp2
    refine bodyPost_ret (v := .tuple #[.slice Ax n cx, .bool false]) (by simp [results, Tryz.results73, go_sem]) rfl ⟨pgOut_end rfl HO.out hLl Own.out HSm.out, B3⟩
  · by_cases h0 : n = 0
    · subst h0
      have x2 := O3.get (x := .string es) 2 rfl
      have x3 := O3.get (x := .int .i64 ed) 3 rfl
      go_wp2
      refine bodyPost_ret (v := .tuple #[.slice (some ⟨w3.heap.size + 1, 0, none⟩) 1 1, .bool true]) (by simp [results, Tryz.results73, go_sem]) rfl ⟨pgOut_one w3 eh ei es ed B3.size heN, belA (belA B3 _) _⟩
    · have N0 : ((n : Int) == 0) = false := by simp; omega
      have n1 : 1 ≤ n := by omega
      clear x0 x1 lO
      go_wp2
      go_loopw [9, 10] (fun a i wr => ∃ j t : Nat, i = .int .i64 j ∧ 1 ≤ j ∧ j ≤ n ∧ a = .int .i64 t ∧ t < n ∧ Below w3.heap.size w3 wr) (fun _ i _ => n - (intOf i).toNat)
      case atStart => exact ⟨1, 0, rfl, by omega, by omega, rfl, by omega, bel0 _⟩
      case round =>
        obtain ⟨j, t, rfl, h1j, hjN, rfl, htn, hbel⟩ := hrel
        by_cases hlt : j < n
        · have q0 : (0 : Int) ≤ (j : Int) := by omega
          have q1 : (j : Int) < (n : Int) := by omega
          obtain ⟨hk, b, o, A', c', rfl, hb, y0, hr'⟩ := (Hp.out _ (belN B3 hbel)).at_ hlt
          have hzl := hz4 _ (List.getElem_mem hk)
          obtain ⟨l, hll⟩ : ∃ l, ps[j] = l := ⟨_, rfl⟩
          rw [hll] at y0 hr' hzl
          obtain ⟨hk0, b2, o2, rfl, _, z0, z1, _, _⟩ := reads_ent hr' (show 0 < l.length by omega)
          simp only [Nat.zero_mul, Nat.add_zero] at z0 z1
          obtain ⟨fh, hfh⟩ : ∃ x, l[0].h = x := ⟨_, rfl⟩
          obtain ⟨fi, hfi⟩ : ∃ x, l[0].i = x := ⟨_, rfl⟩
          rw [hfh] at z0
          rw [hfi] at z1
          have ll0 : ((l.length : Nat) : Int) > 0 := by omega
          have O6 := O3.below hbel O3.lt
          have x0 := O6.get (x := .int .i64 eh) 0 rfl
          have x1 := O6.get (x := .int .i64 ei) 1 rfl
          have x2 := O6.get (x := .string es) 2 rfl
          have x3 := O6.get (x := .int .i64 ed) 3 rfl
          clear hfh hfi hr' hll
          rcases hbh : lessB ⟨eh, ei, es, ed⟩ fh fi with _ | _
          all_goals
           go_wp2_with fail
           go_region_held3 (fun w' => w'.cell? ⟨w.heap.size, 0, none⟩ = some (.int .i64 eh) ∧ w'.cell? ⟨w.heap.size, 1, none⟩ = some (.int .i64 ei) ∧ w'.cell? ⟨w.heap.size, 2, none⟩ = some (.string es) ∧ w'.cell? ⟨w.heap.size, 3, none⟩ = some (.int .i64 ed) ∧ w'.cell? ⟨b, o + j, none⟩ = some (.slice (some ⟨b2, o2, none⟩) l.length c') ∧ w'.cell? ⟨b2, o2, none⟩ = some (.int .i64 fh) ∧ w'.cell? ⟨b2, o2 + 1, none⟩ = some (.int .i64 fi))
            (first | go_keep | (refine ⟨keep1 hb10 ?_, keep1 hb10 ?_, keep1 hb10 ?_, keep1 hb10 ?_, keep1 hb10 ?_, keep1 hb10 ?_, keep1 hb10 ?_⟩ <;> go_keep))
            (first
              | (go_at_call 39; refine (l5Less_any ⟨eh, ei, es, ed⟩ _ _ _).mono ?_; rintro e w10 ⟨rfl, hb10⟩))
           have hb11 : Below w3.heap.size w3 w10 := by first | exact belN hbel.drew hb10 | exact belN (below_drewN hbel _) hb10 | exact belN (below_drewN hbel _).drew hb10
           try rw [hbh]
           go_wp2
           first
             | exact ⟨⟨j + 1, j, by go_num, by omega, by omega, rfl, by omega, hb11⟩, by simp [intOf]; omega⟩
             | exact ⟨⟨j + 1, t, by go_num, by omega, by omega, rfl, by omega, hb11⟩, by simp [intOf]; omega⟩
             | (go_roundw; case rel => first | exact ⟨j + 1, j, by go_num, by omega, by omega, rfl, by omega, hb11⟩ | exact ⟨j + 1, t, by go_num, by omega, by omega, rfl, by omega, hb11⟩; case measure => (simp [intOf]; omega))
        · obtain rfl : j = n := by omega
          have q9 : ¬ ((j : Int) < (j : Int)) := by omega
          have q0 : (0 : Int) ≤ (t : Int) := by omega
          have q1 : (t : Int) < (j : Int) := by omega
          obtain ⟨hk, b, o, A', c', rfl, hb, y0, hr'⟩ := (Hp.out _ (belN B3 hbel)).at_ htn
          have hzl := hz4 _ (List.getElem_mem hk)
          have hzN' := HzN.out _ (List.getElem_mem hk)
          obtain ⟨l, hll⟩ : ∃ l, ps[t] = l := ⟨_, rfl⟩
          rw [hll] at y0 hr' hzl hzN'
          have HR := Lib.hid (fun W (hb : Below wr.heap.size wr W) => (hr'.below hb).more hb.size)
          have O6 := O3.below hbel O3.lt
          have x0 := O6.get (x := .int .i64 eh) 0 rfl
          have x1 := O6.get (x := .int .i64 ei) 1 rfl
          have x2 := O6.get (x := .string es) 2 rfl
          have x3 := O6.get (x := .int .i64 ed) 3 rfl
          have HN' := Lib.hid hzN'
          clear hr' hll hzN'
          go_wp2_with fail
          go_region_held3 (fun w' => w'.cell? ⟨w.heap.size, 0, none⟩ = some (.int .i64 eh) ∧ w'.cell? ⟨w.heap.size, 1, none⟩ = some (.int .i64 ei) ∧ w'.cell? ⟨w.heap.size, 2, none⟩ = some (.string es) ∧ w'.cell? ⟨w.heap.size, 3, none⟩ = some (.int .i64 ed) ∧ w'.cell? ⟨b, o + t, none⟩ = some (.slice A' l.length c'))
            (first | go_keep | (refine ⟨keep1 hb10 ?_, keep1 hb10 ?_, keep1 hb10 ?_, keep1 hb10 ?_, keep1 hb10 ?_⟩ <;> go_keep))
            (first
              | (go_at_call 92; refine (l18Into_any N A' l.length c' l HN'.out eh ei es ed heN (by omega) _ (HR.out _ (bel0 wr).drew)).mono ?_; rintro e w10 ⟨⟨v1, xs, rfl, hxl, hxN, own10⟩, hb10⟩; obtain ⟨g1, c1, rfl⟩ := own_form1 own10 (by omega)))
          have hq10 : Below wr.heap.size wr w10 := (bel0 wr).drew.trans hb10
          have B10 := belN hbel hq10
          have HX := Lib.hid own10
          have HxN := Lib.hid hxN
          clear own10 hxN x0 x1 x2 x3 y0
          have htL : t < L.length := by omega
          obtain ⟨g0, cq, he0⟩ := own_form1 Own.out (by omega)
          simp only [Value.slice.injEq, true_and] at he0
          obtain ⟨rfl, rfl⟩ := he0
          have Y10 := Lib.hid (own_below (own_below Own.out hbel (Nat.le_refl _)) hq10 (Nat.le_refl _))
          have HO10 := Lib.hid ((HO.out.bl hbel).bl hq10)
          have hg1 := (own_some HX.out).1
          obtain ⟨q, hq⟩ : ∃ q : PgD, q = ⟨g1, c1, xs, l.length + 1, c1⟩ := ⟨_, rfl⟩
          have hqv : q.val = .slice (some ⟨g1, 0, none⟩) (l.length + 1) c1 := by rw [hq]; rfl
          have hwl : w.heap.size ≤ wr.heap.size := Nat.le_trans B3.size hbel.size
          have hqd : OwnD w10 w.heap.size q := by
            rw [hq]
            refine ⟨?_, by simp only [hxl]; exact Nat.le_refl _⟩
            simp only [hxl]
            exact own_more HX.out hwl
          have hqc : q.con = xs := by rw [hq]; unfold PgD.con; simp only [← hxl]; exact List.take_length
          by_cases hl4 : l.length + 1 ≤ 4
          · have HP := Lib.hid ((HO.out.bl hbel).set (w' := w10) (q := q) htL ⟨hq10.os, hq10.tape, hq10.output, hq10.size, fun i hi _ => hq10.block i hi⟩ hqd (.inr (by rw [hq]; exact hg1)))
            have HP13 := Lib.hid (HP.out.app Y10.out (show w10.grownBy (w10.setCell ⟨g0, t, none⟩ (.slice (some ⟨g1, 0, none⟩) (l.length + 1) c1)) (some g0) from only_sc (grown_refl _ _) t _))
            have y := own_set Y10.out t q.val
            rw [PV_set, hqv] at y
            have Y13 := Lib.hid y
            have lg0 := (own_some Own.out).1
            have B13 := Lib.hid (belC (belN B3 B10) g0 t lg0 (.slice (some ⟨g1, 0, none⟩) (l.length + 1) c1))
            have y10 := Y10.out.cellAt t (by omega)
            rw [PV_get L t htL] at y10
            have f10 := own_frozen Y10.out t
            have q5 : (l.length : Int) + 1 ≤ 4 := by omega
            have q6 : ((l.length + 1 : Nat) : Int) ≤ 4 := by omega
            have HS := Lib.hid (show SmL N (L.set t q) from ⟨by rw [List.length_set]; exact HSm.out.1, fun p hp => by
              rcases List.mem_or_eq_of_mem_set hp with h | rfl
              · exact HSm.out.2 p h
              · rw [hqc]; exact ⟨by omega, by omega, HxN.out⟩⟩)
            have hL2 : (L.set t q).length = j := by rw [List.length_set]; exact hLl
            clear y hqd
            go_wp2
            refine bodyPost_ret (v := .tuple #[.slice (some ⟨g0, 0, none⟩) j cx, .bool true]) (by simp [results, Tryz.results73, go_sem]) rfl ⟨pgOut_end rfl HP13.out hL2 Y13.out HS.out, B13.out⟩
          · have q5 : ¬ ((l.length : Int) + 1 ≤ 4) := by omega
            have q6 : ¬ (((l.length + 1 : Nat) : Int) ≤ 4) := by omega
            by_cases hn8 : 8 ≤ j
            · have q7 : (8 : Int) ≤ (j : Int) := by omega
              go_wp2
              refine bodyPost_ret (v := .tuple #[.slice (some ⟨g0, 0, none⟩) j cx, .bool false]) (by simp [results, Tryz.results73, go_sem]) rfl ⟨pgOut_end rfl HO10.out hLl Y10.out HSm.out, belN B3 B10⟩
            · have q7 : ¬ ((8 : Int) ≤ (j : Int)) := by omega
              have hx5 : xs.length = 5 := by omega
              have hc5 : 5 ≤ c1 := by obtain ⟨_, _, _, h, _⟩ := own_some HX.out; omega
              have HX1 := Lib.hid (fun W (hb : Below w10.heap.size w10 W) => ((own_head (k := 3) HX.out (by omega)).below hb).more hb.size)
              obtain ⟨A2, hA2, hrt⟩ := own_tail (k := 2) HX.out (by omega)
              rw [if_neg (by omega)] at hA2
              injection hA2 with hA2
              subst hA2
              have HX2 := Lib.hid (fun W (hb : Below w10.heap.size w10 W) => (show Reads W W.heap.size 4 (some ⟨g1, 3 * 4, none⟩) 2 (ES (xs.drop 3)) by have := (hrt.below hb).more hb.size; rw [show l.length + 1 - (2 + 1) = 2 by omega] at this; exact this))
              have hlw : l.length + 1 = 5 := by omega
              rw [hlw] at q6 ⊢
              have e3 : ¬ (c1 = 3) := by omega
              have e4 : (3 : Int) ≤ (c1 : Int) := by omega
              have e5 : 3 ≤ c1 := by omega
              go_upto_region 21 with fail
              refine wp_region_held_drew (S := fun w' => True) (by kernel_rfl) (by exact trivial) (fun hHeld => ?_)
              clear hHeld
              refine foldH ?_
              intro r hr0
              have bw : Below w10.heap.size w10 r := by rw [hr0]; exact (bel0 w10).drew
              clear hr0
              apply memo_nnnnnnnnnw (P := fun aLa aLb bRa bRb cP cRa cRb gP mP q => Below w10.heap.size w10 q ∧ q.ownsRow w10.heap.size 30 1 (.slice (some ⟨gP, 0, none⟩) mP cP) mP (PV (L.take t ++ ⟨bRa, cRa, xs.take 3, 3, cRa⟩ :: ⟨bRb, cRb, xs.drop 3, 2, cRb⟩ :: L.drop (t + 1))) ∧ q.ownsRow w10.heap.size 40 4 (.slice (some ⟨bRa, 0, none⟩) (3) cRa) (3) (ES (xs.take 3)) ∧ q.ownsRow w10.heap.size 40 4 (.slice (some ⟨bRb, 0, none⟩) (2) cRb) (2) (ES (xs.drop 3)) ∧ j + 1 = mP ∧ bRa ≠ bRb)
              case use =>
               intro key_pa_2_5_6_9_10
               apply memo_nnnnnnw (P := fun aLa aLb bRa bRb cRa cRb q => Below w10.heap.size w10 q ∧ q.ownsRow w10.heap.size 40 4 (.slice (some ⟨bRa, 0, none⟩) (3) cRa) (3) (ES (xs.take 3)) ∧ q.ownsRow w10.heap.size 40 4 (.slice (some ⟨bRb, 0, none⟩) (2) cRb) (2) (ES (xs.drop 3)) ∧ bRa ≠ bRb)
               case use =>
                intro key_pa_2_5_6_9
                apply memo_nnnnw (P := fun aLa aLb bRa cRa q => Below w10.heap.size w10 q ∧ q.ownsRow w10.heap.size 40 4 (.slice (some ⟨aLb, 0, none⟩) 0 0) 0 [] ∧ q.ownsRow w10.heap.size 40 4 (.slice (some ⟨bRa, 0, none⟩) (3) cRa) (3) (ES (xs.take 3)) ∧ aLb ≠ bRa)
                case use =>
                 intro key_pa_2_5_6
                 apply memo_nnw (P := fun aLa aLb q => Below w10.heap.size w10 q ∧ q.ownsRow w10.heap.size 40 4 (.slice (some ⟨aLa, 0, none⟩) 0 0) 0 [] ∧ q.ownsRow w10.heap.size 40 4 (.slice (some ⟨aLb, 0, none⟩) 0 0) 0 [] ∧ aLa ≠ aLb)
                 case use =>
                  intro key_pa_2_6
                  apply memo_nnnw (P := fun aLa bRa cRa q => Below w10.heap.size w10 q ∧ q.ownsRow w10.heap.size 40 4 (.slice (some ⟨bRa, 0, none⟩) (3) cRa) (3) (ES (xs.take 3)))
                  case use =>
                   intro key_pa_2_5
                   apply memo_nw (P := fun aLb q => Below w10.heap.size w10 q ∧ q.ownsRow w10.heap.size 40 4 (.slice (some ⟨aLb, 0, none⟩) 0 0) 0 [])
                   case use =>
                    intro key_pa_6
                    apply memo_nw (P := fun aLa q => Below w10.heap.size w10 q ∧ q.ownsRow w10.heap.size 40 4 (.slice (some ⟨aLa, 0, none⟩) 0 0) 0 [])
                    case use =>
                     intro key_pa_2
                     refine wpAnyH_take (i := 0) (oi := ?oi30001) (v := ?v30001) ?hi30001 ?hs30001 ?hf30001 ?hr30001 ?hQ30001 ?hy30001 ?hS30001 ?hrest30001
                     case hi30001 => (conv => lhs; simp only [List.getElem?_toArray, List.getElem?_cons_zero]); try exact rfl
                     case hs30001 => kernel_rfl
                     case hf30001 => kernel_rfl
                     case hr30001 => kernel_rfl
                     case hQ30001 => exact fun _ _ _ h => h
                     case hS30001 => exact trivial
                     case hy30001 => refine Or.inl ⟨by rfl, ?_⟩; intro w hSw; (try dsimp only at hSw); go_simp; (try with_reducible rfl)
                     simp only [Act.put, List.setIfInBounds_toArray, List.set_cons_zero, List.set_cons_succ]
                     refine wpAnyH_take (i := 1) (oi := ?oi30002) (v := ?v30002) ?hi30002 ?hs30002 ?hf30002 ?hr30002 ?hQ30002 ?hy30002 ?hS30002 ?hrest30002
                     case hi30002 => (conv => lhs; simp only [List.getElem?_toArray, List.getElem?_cons_zero, List.getElem?_cons_succ]); try exact rfl
                     case hs30002 => kernel_rfl
                     case hf30002 => kernel_rfl
                     case hr30002 => kernel_rfl
                     case hQ30002 => exact fun _ _ _ h => h
                     case hS30002 => exact trivial
                     case hy30002 => refine Or.inl ⟨by rfl, ?_⟩; intro w hSw; (try dsimp only at hSw); go_simp; (try with_reducible rfl)
                     simp only [Act.put, List.setIfInBounds_toArray, List.set_cons_zero, List.set_cons_succ]
                     refine wpAnyH_take (i := 3) (oi := ?oi30003) (v := ?v30003) ?hi30003 ?hs30003 ?hf30003 ?hr30003 ?hQ30003 ?hy30003 ?hS30003 ?hrest30003
                     case hi30003 => (conv => lhs; simp only [List.getElem?_toArray, List.getElem?_cons_zero, List.getElem?_cons_succ]); try exact rfl
                     case hs30003 => kernel_rfl
                     case hf30003 => kernel_rfl
                     case hr30003 => kernel_rfl
                     case hQ30003 => exact fun _ _ _ h => h
                     case hS30003 => exact trivial
                     case hy30003 => refine Or.inl ⟨by rfl, ?_⟩; intro w hSw; (try dsimp only at hSw); go_simp; (try with_reducible rfl)
                     simp only [Act.put, List.setIfInBounds_toArray, List.set_cons_zero, List.set_cons_succ]
                     refine wpAnyH_take (i := 4) (oi := ?oi30004) (v := ?v30004) ?hi30004 ?hs30004 ?hf30004 ?hr30004 ?hQ30004 ?hy30004 ?hS30004 ?hrest30004
                     case hi30004 => (conv => lhs; simp only [List.getElem?_toArray, List.getElem?_cons_zero, List.getElem?_cons_succ]); try exact rfl
                     case hs30004 => kernel_rfl
                     case hf30004 => kernel_rfl
                     case hr30004 => kernel_rfl
                     case hQ30004 => exact fun _ _ _ h => h
                     case hS30004 => exact trivial
                     case hy30004 => refine Or.inl ⟨by rfl, ?_⟩; intro w hSw; (try dsimp only at hSw); go_simp; (try with_reducible rfl)
                     simp only [Act.put, List.setIfInBounds_toArray, List.set_cons_zero, List.set_cons_succ]
                     refine wpAnyH_take (i := 7) (oi := ?oi30005) (v := ?v30005) ?hi30005 ?hs30005 ?hf30005 ?hr30005 ?hQ30005 ?hy30005 ?hS30005 ?hrest30005
                     case hi30005 => (conv => lhs; simp only [List.getElem?_toArray, List.getElem?_cons_zero, List.getElem?_cons_succ]); try exact rfl
                     case hs30005 => kernel_rfl
                     case hf30005 => kernel_rfl
                     case hr30005 => kernel_rfl
                     case hQ30005 => exact fun _ _ _ h => h
                     case hS30005 => exact trivial
                     case hy30005 => refine Or.inl ⟨by rfl, ?_⟩; intro w hSw; (try dsimp only at hSw); go_simp; (try with_reducible rfl)
                     simp only [Act.put, List.setIfInBounds_toArray, List.set_cons_zero, List.set_cons_succ]
                     refine wpAnyH_take (i := 8) (oi := ?oi30006) (v := ?v30006) ?hi30006 ?hs30006 ?hf30006 ?hr30006 ?hQ30006 ?hy30006 ?hS30006 ?hrest30006
                     case hi30006 => (conv => lhs; simp only [List.getElem?_toArray, List.getElem?_cons_zero, List.getElem?_cons_succ]); try exact rfl
                     case hs30006 => kernel_rfl
                     case hf30006 => kernel_rfl
                     case hr30006 => kernel_rfl
                     case hQ30006 => exact fun _ _ _ h => h
                     case hS30006 => exact trivial
                     case hy30006 => refine Or.inl ⟨by rfl, ?_⟩; intro w hSw; (try dsimp only at hSw); go_simp; (try with_reducible rfl)
                     simp only [Act.put, List.setIfInBounds_toArray, List.set_cons_zero, List.set_cons_succ]
                     refine wpAnyH_ready (rs := [2, 6]) (by kernel_rfl) (by simp) ?_
                     refine AllReadyH.cons (o := ?oi30007) ?hi30007 (fun K hK => ?br30007) (AllReadyH.cons (o := ?oi30008) ?hi30008 (fun K hK => ?br30008) AllReadyH.nil)
                     case hi30007 => (conv => lhs; simp only [List.getElem?_toArray, List.getElem?_cons_zero, List.getElem?_cons_succ]); try exact rfl
                     case hi30008 => (conv => lhs; simp only [List.getElem?_toArray, List.getElem?_cons_zero, List.getElem?_cons_succ]); try exact rfl
                     case br30007 =>
                      go_simp
                      refine hK.out _ _ (by exact trivial) (fun _ => ?_)
                      clear hK K
                      try simp only [Act.put, List.setIfInBounds_toArray, List.set_cons_zero, List.set_cons_succ]
                      refine foldH ?_
                      intro q hq
                      obtain ⟨aLa, ha⟩ : ∃ g, r.heap.size = g := ⟨_, rfl⟩
                      rw [ha]
                      have bw2 : Below w10.heap.size w10 q := by rw [hq]; exact belA bw _
                      have oLa2 : q.ownsRow w10.heap.size 40 4 (.slice (some ⟨aLa, 0, none⟩) 0 0) 0 [] := by rw [hq, ← ha]; exact own_lit0 _ _ _ _ bw.size
                      exact key_pa_2 aLa q ⟨bw2, oLa2⟩
                     case br30008 =>
                      go_simp
                      refine hK.out _ _ (by exact trivial) (fun _ => ?_)
                      clear hK K
                      try simp only [Act.put, List.setIfInBounds_toArray, List.set_cons_zero, List.set_cons_succ]
                      refine foldH ?_
                      intro q hq
                      obtain ⟨aLb, ha⟩ : ∃ g, r.heap.size = g := ⟨_, rfl⟩
                      rw [ha]
                      have bw2 : Below w10.heap.size w10 q := by rw [hq]; exact belA bw _
                      have oLb2 : q.ownsRow w10.heap.size 40 4 (.slice (some ⟨aLb, 0, none⟩) 0 0) 0 [] := by rw [hq, ← ha]; exact own_lit0 _ _ _ _ bw.size
                      exact key_pa_6 aLb q ⟨bw2, oLb2⟩
                    case key =>
                     rintro aLa r ⟨bw, oLa⟩
                     try dsimp only
                     refine wpAnyH_ready (rs := [5, 6]) (by kernel_rfl) (by simp) ?_
                     refine AllReadyH.cons (o := ?oi30009) ?hi30009 (fun K hK => ?br30009) (AllReadyH.cons (o := ?oi30010) ?hi30010 (fun K hK => ?br30010) AllReadyH.nil)
                     case hi30009 => (conv => lhs; simp only [List.getElem?_toArray, List.getElem?_cons_zero, List.getElem?_cons_succ]); try exact rfl
                     case hi30010 => (conv => lhs; simp only [List.getElem?_toArray, List.getElem?_cons_zero, List.getElem?_cons_succ]); try exact rfl
                     case br30009 =>
                      refine step_appX _ (by rfl) _ _ 30 (by rfl) Tryz.el_ent oLa (by rfl) (HX1.out _ bw) (by rfl) (ES_cells _) (by unfold maxLen; omega) (by omega) bw.size ?_
                      intro v q ow hg hor hb
                      rw [Nat.zero_add, List.nil_append] at ow
                      obtain ⟨bRa, cRa, rfl⟩ := own_form1 ow (by omega)
                      have bw2 := bw.trans hb
                      have oRa2 : q.ownsRow w10.heap.size 40 4 (.slice (some ⟨bRa, 0, none⟩) (3) cRa) (3) (ES (xs.take 3)) := ow
                      try simp only [Act.put, List.setIfInBounds_toArray, List.set_cons_zero, List.set_cons_succ]
                      refine hK.out _ _ (by exact trivial) (fun _ => ?_)
                      clear hK K
                      try simp only [Act.put, List.setIfInBounds_toArray, List.set_cons_zero, List.set_cons_succ]
                      exact key_pa_2_5 aLa bRa cRa q ⟨bw2, oRa2⟩
                     case br30010 =>
                      go_simp
                      refine hK.out _ _ (by exact trivial) (fun _ => ?_)
                      clear hK K
                      try simp only [Act.put, List.setIfInBounds_toArray, List.set_cons_zero, List.set_cons_succ]
                      refine foldH ?_
                      intro q hq
                      obtain ⟨aLb, ha⟩ : ∃ g, r.heap.size = g := ⟨_, rfl⟩
                      rw [ha]
                      have bw2 : Below w10.heap.size w10 q := by rw [hq]; exact belA bw _
                      have oLa2 : q.ownsRow w10.heap.size 40 4 (.slice (some ⟨aLa, 0, none⟩) 0 0) 0 [] := by rw [hq]; exact oLa.alloc _
                      have oLb2 : q.ownsRow w10.heap.size 40 4 (.slice (some ⟨aLb, 0, none⟩) 0 0) 0 [] := by rw [hq, ← ha]; exact own_lit0 _ _ _ _ bw.size
                      have neLaLb : aLa ≠ aLb := by have := (oLa.lt aLa rfl).2; omega
                      exact key_pa_2_6 aLa aLb q ⟨bw2, oLa2, oLb2, neLaLb⟩
                   case key =>
                    rintro aLb r ⟨bw, oLb⟩
                    try dsimp only
                    refine wpAnyH_ready (rs := [2]) (by kernel_rfl) (by simp) ?_
                    refine AllReadyH.cons (o := ?oi30011) ?hi30011 (fun K hK => ?br30011) AllReadyH.nil
                    case hi30011 => (conv => lhs; simp only [List.getElem?_toArray, List.getElem?_cons_zero, List.getElem?_cons_succ]); try exact rfl
                    case br30011 =>
                     go_simp
                     refine hK.out _ _ (by exact trivial) (fun _ => ?_)
                     clear hK K
                     try simp only [Act.put, List.setIfInBounds_toArray, List.set_cons_zero, List.set_cons_succ]
                     refine foldH ?_
                     intro q hq
                     obtain ⟨aLa, ha⟩ : ∃ g, r.heap.size = g := ⟨_, rfl⟩
                     rw [ha]
                     have bw2 : Below w10.heap.size w10 q := by rw [hq]; exact belA bw _
                     have oLb2 : q.ownsRow w10.heap.size 40 4 (.slice (some ⟨aLb, 0, none⟩) 0 0) 0 [] := by rw [hq]; exact oLb.alloc _
                     have oLa2 : q.ownsRow w10.heap.size 40 4 (.slice (some ⟨aLa, 0, none⟩) 0 0) 0 [] := by rw [hq, ← ha]; exact own_lit0 _ _ _ _ bw.size
                     have neLaLb : aLa ≠ aLb := by have := (oLb.lt aLb rfl).2; omega
                     exact key_pa_2_6 aLa aLb q ⟨bw2, oLa2, oLb2, neLaLb⟩
                  case key =>
                   rintro aLa bRa cRa r ⟨bw, oRa⟩
                   try dsimp only
                   refine wpAnyH_ready (rs := [6]) (by kernel_rfl) (by simp) ?_
                   refine AllReadyH.cons (o := ?oi30012) ?hi30012 (fun K hK => ?br30012) AllReadyH.nil
                   case hi30012 => (conv => lhs; simp only [List.getElem?_toArray, List.getElem?_cons_zero, List.getElem?_cons_succ]); try exact rfl
                   case br30012 =>
                    go_simp
                    refine hK.out _ _ (by exact trivial) (fun _ => ?_)
                    clear hK K
                    try simp only [Act.put, List.setIfInBounds_toArray, List.set_cons_zero, List.set_cons_succ]
                    refine foldH ?_
                    intro q hq
                    obtain ⟨aLb, ha⟩ : ∃ g, r.heap.size = g := ⟨_, rfl⟩
                    rw [ha]
                    have bw2 : Below w10.heap.size w10 q := by rw [hq]; exact belA bw _
                    have oRa2 : q.ownsRow w10.heap.size 40 4 (.slice (some ⟨bRa, 0, none⟩) (3) cRa) (3) (ES (xs.take 3)) := by rw [hq]; exact oRa.alloc _
                    have oLb2 : q.ownsRow w10.heap.size 40 4 (.slice (some ⟨aLb, 0, none⟩) 0 0) 0 [] := by rw [hq, ← ha]; exact own_lit0 _ _ _ _ bw.size
                    have neLbRa : aLb ≠ bRa := by have := (oRa.lt bRa rfl).2; omega
                    exact key_pa_2_5_6 aLa aLb bRa cRa q ⟨bw2, oLb2, oRa2, neLbRa⟩
                 case key =>
                  rintro aLa aLb r ⟨bw, oLa, oLb, neLaLb⟩
                  try dsimp only
                  refine wpAnyH_ready (rs := [5]) (by kernel_rfl) (by simp) ?_
                  refine AllReadyH.cons (o := ?oi30013) ?hi30013 (fun K hK => ?br30013) AllReadyH.nil
                  case hi30013 => (conv => lhs; simp only [List.getElem?_toArray, List.getElem?_cons_zero, List.getElem?_cons_succ]); try exact rfl
                  case br30013 =>
                   refine step_appX _ (by rfl) _ _ 30 (by rfl) Tryz.el_ent oLa (by rfl) (HX1.out _ bw) (by rfl) (ES_cells _) (by unfold maxLen; omega) (by omega) bw.size ?_
                   intro v q ow hg hor hb
                   rw [Nat.zero_add, List.nil_append] at ow
                   obtain ⟨bRa, cRa, rfl⟩ := own_form1 ow (by omega)
                   have bw2 := bw.trans hb
                   have oLb2 : q.ownsRow w10.heap.size 40 4 (.slice (some ⟨aLb, 0, none⟩) 0 0) 0 [] := own_keepG oLb hg (fun e => neLaLb (by simp only [Value.ownBlock, Option.some.injEq] at e; omega))
                   have neLbRa : aLb ≠ bRa := by have h1 := (oLb.lt aLb rfl).2; have h2 := neLaLb; simp only [Value.ownBlock, Option.some.injEq] at hor; omega
                   have oRa2 : q.ownsRow w10.heap.size 40 4 (.slice (some ⟨bRa, 0, none⟩) (3) cRa) (3) (ES (xs.take 3)) := ow
                   try simp only [Act.put, List.setIfInBounds_toArray, List.set_cons_zero, List.set_cons_succ]
                   refine hK.out _ _ (by exact trivial) (fun _ => ?_)
                   clear hK K
                   try simp only [Act.put, List.setIfInBounds_toArray, List.set_cons_zero, List.set_cons_succ]
                   exact key_pa_2_5_6 aLa aLb bRa cRa q ⟨bw2, oLb2, oRa2, neLbRa⟩
                case key =>
                 rintro aLa aLb bRa cRa r ⟨bw, oLb, oRa, neLbRa⟩
                 try dsimp only
                 refine wpAnyH_ready (rs := [9]) (by kernel_rfl) (by simp) ?_
                 refine AllReadyH.cons (o := ?oi30014) ?hi30014 (fun K hK => ?br30014) AllReadyH.nil
                 case hi30014 => (conv => lhs; simp only [List.getElem?_toArray, List.getElem?_cons_zero, List.getElem?_cons_succ]); try exact rfl
                 case br30014 =>
                  refine step_appX _ (by rfl) _ _ 30 (by rfl) Tryz.el_ent oLb (by rfl) (HX2.out _ bw) (by rfl) (ES_cells _) (by unfold maxLen; omega) (by omega) bw.size ?_
                  intro v q ow hg hor hb
                  rw [Nat.zero_add, List.nil_append] at ow
                  obtain ⟨bRb, cRb, rfl⟩ := own_form1 ow (by omega)
                  have bw2 := bw.trans hb
                  have oRa2 : q.ownsRow w10.heap.size 40 4 (.slice (some ⟨bRa, 0, none⟩) (3) cRa) (3) (ES (xs.take 3)) := own_keepG oRa hg (fun e => neLbRa (by simp only [Value.ownBlock, Option.some.injEq] at e; omega))
                  have neRaRb : bRa ≠ bRb := by have h1 := (oRa.lt bRa rfl).2; have h2 := neLbRa; simp only [Value.ownBlock, Option.some.injEq] at hor; omega
                  have oRb2 : q.ownsRow w10.heap.size 40 4 (.slice (some ⟨bRb, 0, none⟩) (2) cRb) (2) (ES (xs.drop 3)) := ow
                  try simp only [Act.put, List.setIfInBounds_toArray, List.set_cons_zero, List.set_cons_succ]
                  refine hK.out _ _ (by exact trivial) (fun _ => ?_)
                  clear hK K
                  try simp only [Act.put, List.setIfInBounds_toArray, List.set_cons_zero, List.set_cons_succ]
                  exact key_pa_2_5_6_9 aLa aLb bRa bRb cRa cRb q ⟨bw2, oRa2, oRb2, neRaRb⟩
               case key =>
                rintro aLa aLb bRa bRb cRa cRb r ⟨bw, oRa, oRb, neRaRb⟩
                try dsimp only
                refine wpAnyH_ready (rs := [10]) (by kernel_rfl) (by simp) ?_
                refine AllReadyH.cons (o := ?oi30015) ?hi30015 (fun K hK => ?br30015) AllReadyH.nil
                case hi30015 => (conv => lhs; simp only [List.getElem?_toArray, List.getElem?_cons_zero, List.getElem?_cons_succ]); try exact rfl
                case br30015 =>
                 go_simp
                 go_at_call 93
                 refine (l18Pages_any w.heap.size g0 j cx L t (by omega) ⟨bRa, cRa, xs.take 3, 3, cRa⟩ ⟨bRb, cRb, xs.drop 3, 2, cRb⟩ (by omega) _ (own_below Y10.out bw (Nat.le_refl _))).mono ?_
                 rintro e q ⟨⟨vP, rfl, oP⟩, hb⟩
                 have bw2 := bw.trans (hb.mono bw.size)
                 have oRa2 := own_below oRa hb (Nat.le_refl _)
                 have oRb2 := own_below oRb hb (Nat.le_refl _)
                 have hmP : (L.take t ++ ⟨bRa, cRa, xs.take 3, 3, cRa⟩ :: ⟨bRb, cRb, xs.drop 3, 2, cRb⟩ :: L.drop (t + 1)).length = j + 1 := by simp; omega
                 obtain ⟨mP, hmP2⟩ : ∃ m, j + 1 = m := ⟨_, rfl⟩
                 rw [hmP, hmP2] at oP
                 obtain ⟨gP, cP, rfl⟩ := own_form1 oP (by omega)
                 have pP2 : q.ownsRow w10.heap.size 30 1 (.slice (some ⟨gP, 0, none⟩) mP cP) mP (PV (L.take t ++ ⟨bRa, cRa, xs.take 3, 3, cRa⟩ :: ⟨bRb, cRb, xs.drop 3, 2, cRb⟩ :: L.drop (t + 1))) := own_more oP bw.size
                 refine hK.out _ _ (by exact trivial) (fun _ => ?_)
                 clear hK K
                 try simp only [Act.put, List.setIfInBounds_toArray, List.set_cons_zero, List.set_cons_succ]
                 refine wpAnyH_take (i := 11) (oi := ?oi30016) (v := ?v30016) ?hi30016 ?hs30016 ?hf30016 ?hr30016 ?hQ30016 ?hy30016 ?hS30016 ?hrest30016
                 case hi30016 => (conv => lhs; simp only [List.getElem?_toArray, List.getElem?_cons_zero, List.getElem?_cons_succ]); try exact rfl
                 case hs30016 => kernel_rfl
                 case hf30016 => kernel_rfl
                 case hr30016 => kernel_rfl
                 case hQ30016 => exact fun _ _ _ h => h
                 case hS30016 => exact trivial
                 case hy30016 => refine Or.inl ⟨by rfl, ?_⟩; intro w hSw; (try dsimp only at hSw); go_simp; (try with_reducible rfl)
                 simp only [Act.put, List.setIfInBounds_toArray, List.set_cons_zero, List.set_cons_succ]
                 refine wpAnyH_take (i := 12) (oi := ?oi30017) (v := ?v30017) ?hi30017 ?hs30017 ?hf30017 ?hr30017 ?hQ30017 ?hy30017 ?hS30017 ?hrest30017
                 case hi30017 => (conv => lhs; simp only [List.getElem?_toArray, List.getElem?_cons_zero, List.getElem?_cons_succ]); try exact rfl
                 case hs30017 => kernel_rfl
                 case hf30017 => kernel_rfl
                 case hr30017 => kernel_rfl
                 case hQ30017 => exact fun _ _ _ h => h
                 case hS30017 => exact trivial
                 case hy30017 => refine Or.inl ⟨by rfl, ?_⟩; intro w hSw; (try dsimp only at hSw); go_simp; (try with_reducible rfl)
                 simp only [Act.put, List.setIfInBounds_toArray, List.set_cons_zero, List.set_cons_succ]
                 exact key_pa_2_5_6_9_10 aLa aLb bRa bRb cP cRa cRb gP mP q ⟨bw2, pP2, oRa2, oRb2, hmP2, neRaRb⟩
              case key =>
               rintro aLa aLb bRa bRb cP cRa cRb gP mP r ⟨bw, pP, oRa, oRb, hmP2, neRaRb⟩
               try dsimp only
               refine wpAnyH_done (by kernel_rfl) ?_ _
               have hw10 : w.heap.size ≤ w10.heap.size := Nat.le_trans hwl hq10.size
               have t3 : (xs.take 3).length = 3 := by rw [List.length_take]; omega
               have d2 : (xs.drop 3).length = 2 := by rw [List.length_drop]; omega
               have hDa : OwnD r w.heap.size (⟨bRa, cRa, xs.take 3, 3, cRa⟩ : PgD) := ⟨by simp only [t3]; exact own_more oRa hw10, by simp only [t3]; exact Nat.le_refl _⟩
               have hDb : OwnD r w.heap.size (⟨bRb, cRb, xs.drop 3, 2, cRb⟩ : PgD) := ⟨by simp only [d2]; exact own_more oRb hw10, by simp only [d2]; exact Nat.le_refl _⟩
               have hlo : ∀ x ∈ L, x.g < w10.heap.size := fun x hx => (HO10.out.1 x hx).lt.2
               have hga := (oRa.lt bRa rfl).1
               have hgb := (oRb.lt bRb rfl).1
               have htk : (L.take t).length = t := by rw [List.length_take]; omega
               have k1 := ((HO10.out.bl bw).sub (cut_sub L t)).ins (i := t) hDb (fun x hx => by have := hlo x ((cut_sub L t).subset hx); show x.g ≠ bRb; omega)
               rw [List.take_left' htk, List.drop_left' htk] at k1
               have k2 := k1.ins (i := t) hDa (fun x hx => by
                 show x.g ≠ bRa
                 rcases List.mem_append.1 hx with h | h
                 · have := hlo x (List.mem_of_mem_take h); omega
                 · rcases List.mem_cons.1 h with rfl | h
                   · exact neRaRb.symm
                   · have := hlo x (List.mem_of_mem_drop h); omega)
               rw [List.take_left' htk, List.drop_left' htk] at k2
               have K2 := Lib.hid k2
               have PP := Lib.hid (own_more pP hw10)
               have hS9 : SmL N (L.take t ++ ⟨bRa, cRa, xs.take 3, 3, cRa⟩ :: ⟨bRb, cRb, xs.drop 3, 2, cRb⟩ :: L.drop (t + 1)) := by
                 have hold := HSm.out.2
                 refine ⟨by simp; omega, fun p hp => ?_⟩
                 rcases List.mem_append.1 hp with h | h
                 · exact hold p (List.mem_of_mem_take h)
                 · rcases List.mem_cons.1 h with rfl | h
                   · exact ⟨by simp [PgD.con]; omega, by simp [PgD.con]; omega, fun x hx => HxN.out x (List.mem_of_mem_take (List.mem_of_mem_take hx))⟩
                   · rcases List.mem_cons.1 h with rfl | h
                     · exact ⟨by simp [PgD.con]; omega, by simp [PgD.con]; omega, fun x hx => HxN.out x (List.mem_of_mem_drop (List.mem_of_mem_take hx))⟩
                     · exact hold p (List.mem_of_mem_drop h)
               have HS9 := Lib.hid hS9
               have hlen9 : (L.take t ++ (⟨bRa, cRa, xs.take 3, 3, cRa⟩ : PgD) :: (⟨bRb, cRb, xs.drop 3, 2, cRb⟩ : PgD) :: L.drop (t + 1)).length = mP := by simp; omega
               have BW9 := belN (belN B3 B10) bw
               clear k1 k2 pP oRa oRb hS9 hDa hDb
               go_wp2
               refine bodyPost_ret (v := .tuple #[.slice (some ⟨gP, 0, none⟩) mP cP, .bool true]) (by simp [results, Tryz.results73, go_sem]) rfl ⟨pgOut_end rfl K2.out hlen9 PP.out HS9.out, BW9⟩

end Go.Proofs.YtbchbmcphbeikaaGreatDoor
