/- The text of an inode: the reference. -/
import Derived.Test.YtjjniapamdleoaaGreatDoorRSText
namespace Go.Proofs.YtjjniapamdleoaaGreatDoor
open Go Go.RowKit
set_option maxHeartbeats 4000000
set_option maxRecDepth 100000

def foundB (s : ByteArray) : Bool := decide (s.size ≠ 0)
theorem up_end {s : ByteArray} {v : Value} {s' : ByteArray} {b : Bool} (h1 : s' = s) (h2 : b = foundB s) (hv : v = .tuple #[.string s', .bool b]) : Ending.returned v = .returned (.tuple #[.string s, .bool (foundB s)]) := by rw [hv, h1, h2]

theorem l20Up_one (v : Value) (V : VolD) (S : Int) (w : World) (h : IsVol w v V) :
  Calls Tryz.prog 62 #[v, .int .i64 1, .int .i64 S] w fun e w' => e = .returned (.tuple #[.string ⟨#[]⟩, .bool true]) /\ Below w.heap.size w w' := by
 obtain ⟨A, c, rfl, _⟩ := h
 go_enter Tryz.func62, Tryz.ntmps62
 go_wp2
 refine bodyPost_ret (v := .tuple #[.string ⟨#[]⟩, .bool true]) (by simp [results, Tryz.results62, go_sem]) rfl ⟨rfl, belA (bel0 w) _⟩

theorem l20Up_gen (v : Value) (V : VolD) (hn : V.xs.length <= 10000000) (hz : ∀ x ∈ V.xs, x.es.length <= 10000000) (hzs : ∀ x ∈ V.xs, ∀ e ∈ x.es, e.s.size <= 2000000) (T : Int -> ByteArray) (hT : ∀ i, (T i).size <= 40000000) (a : Int) (ha : a ≠ 1) (S : Int) (hS : 0 < S) (hS2 : S <= 16) (w : World) (h : IsVol w v V)
  (hcall : ∀ x ∈ V.xs, hasE a x.es = true -> ∀ W, IsVol W v V -> Calls Tryz.prog 62 #[v, .int .i64 x.id, .int .i64 (S - 1)] W fun e w' => e = .returned (.tuple #[.string (T x.id), .bool true]) /\ Below W.heap.size W w') :
  Calls Tryz.prog 62 #[v, .int .i64 a, .int .i64 S] w fun e w' => e = .returned (.tuple #[.string (textI V.xs T a V.xs.length), .bool (foundB (textI V.xs T a V.xs.length))]) /\ Below w.heap.size w w' := by
 have hv := Lib.hid h
 have Hcall := Lib.hid hcall
 have Hz := Lib.hid hz
 have Hzs := Lib.hid hzs
 have HTb := Lib.hid hT
 have ha1 : (a == 1) = false := by simpa using ha
 obtain ⟨A, c, rfl, h⟩ := h
 obtain ⟨nx, xs⟩ := V
 simp only at h hn Hcall Hz Hzs ⊢
 have H := Lib.hid h
 have Hsz := Lib.hid (textI_size (a := a) HTb.out Hzs.out)
 clear h hcall hz hT hzs ha
 obtain ⟨n, hn'⟩ : ∃ n, xs.length = n := ⟨_, rfl⟩
 have HL := Lib.hid hn'
 simp only [hn'] at H hn hv Hcall ⊢
 clear hn'
 obtain ⟨R, hR⟩ : ∃ R, textI xs T a n = R := ⟨_, rfl⟩
 have HR := Lib.hid hR
 rw [hR]
 clear hR
 have hw1 : IntKind.i64.wrap (S - 1) = S - 1 := IntWalk.i64_in _ (by omega)
 obtain ⟨W1, hW1⟩ : ∃ W1, w.alloc (.cells #[.int .i64 nx, .slice A n c] 26) = W1 := ⟨_, rfl⟩
 have B1 : Below w.heap.size w W1 := by rw [<- hW1]; exact belA (bel0 w) _
 have hV : Blk W1 w.heap.size 26 #[.int .i64 nx, .slice A n c] := by rw [<- hW1]; exact Blk.new' _ _ _ _ rfl
 have HW1 := Lib.hid hW1
 have V0 := Lib.hid (hV.get 0 rfl)
 have V1 := Lib.hid (hV.get 1 rfl)
 have H1 := Lib.hid ((H.out.below B1).more B1.size)
 clear hW1 hV
 go_enter Tryz.func62, Tryz.ntmps62
 go_wp2
 rw [HW1.out]
 go_loopw [8, 9, 10] (fun m f i wr => ∃ (k : Nat) (q : ByteArray) (fb : Bool), k <= n /\ i = .int .i64 k /\ m = .string q /\ f = .bool fb /\ Hid (q = textI xs T a k) /\ Hid (fb = foundB q) /\ Below W1.heap.size W1 wr)
  (fun _ _ i _ => n - (intOf i).toNat)
 case atStart => exact ⟨0, ⟨#[]⟩, false, by omega, rfl, rfl, rfl, rfl, rfl, bel0 W1⟩
 case round =>
  obtain ⟨k, q, fb, hk, rfl, rfl, rfl, hq, hfb, hbel⟩ := hrel
  have v1 := kp_ hbel V1.out
  rename World => wo
  by_cases hlt : k < n
  ·have hkx : k < xs.length := by have := HL.out; omega
   have q0 : (0 : Int) <= ↑k := by omega
   have q1 : (↑k : Int) < ↑n := by omega
   have Hs := Lib.hid (textI_succ (T := T) (a := a) hkx)
   have hzk := Hz.out _ (List.getElem_mem hkx)
   have hzsk := Lib.hid (Hzs.out _ (List.getElem_mem hkx))
   have hck := Lib.hid (Hcall.out _ (List.getElem_mem hkx))
   have htb := HTb.out xs[k].id
   obtain ⟨t, ht⟩ : ∃ t, T xs[k].id = t := ⟨_, rfl⟩
   rw [ht] at Hs hck htb
   clear ht
   have Hes := Lib.hid (textE_size (a := a) (es := xs[k].es) (best := q) htb (by rw [hq.out]; exact Hsz.out k) hzsk.out)
   go_wp2
   clear v1
   go_loopw [8, 9, 11] (fun m f i wr => ∃ (j : Nat) (p : ByteArray) (fb : Bool), j <= xs[k].es.length /\ i = .int .i64 j /\ m = .string p /\ f = .bool fb /\ Hid (p = textE t a xs[k].es q j) /\ Hid (fb = foundB p) /\ Below W1.heap.size W1 wr)
    (fun _ _ i _ => xs[k].es.length - (intOf i).toNat)
   case atStart => exact ⟨0, q, fb, by omega, rfl, rfl, rfl, rfl, hfb, hbel⟩
   case round =>
    clear hbel hfb
    obtain ⟨j, p, fb, hj, rfl, rfl, rfl, hp, hfb, hbel⟩ := hrel
    have v0 := kp_ hbel V0.out
    have v1 := kp_ hbel V1.out
    obtain ⟨_, b, ob, A', c', rfl, hadb, z0, z1, z2, z3, z4, hrow⟩ := (H1.out.below hbel).at_ hlt
    by_cases hlt2 : j < xs[k].es.length
    ·obtain ⟨hjx, b2, o2, rfl, hadb2, y0, y1, y2, y3⟩ := reads_ent hrow hlt2
     have q2 : (0 : Int) <= ↑j := by omega
     have q3 : (↑j : Int) < ↑xs[k].es.length := by omega
     have Hyes := Lib.hid (fun h => textE_yes (T := t) (best := q) (a := a) hlt2 h)
     have Hno := Lib.hid (fun h => textE_no (T := t) (best := q) (a := a) hlt2 h)
     have Hin := Lib.hid (show xs[k].es[j].d = a -> hasE a xs[k].es = true from fun h => hasE_iff.2 ⟨_, List.getElem_mem hlt2, h⟩)
     have hnz := hzsk.out _ (List.getElem_mem hlt2)
     have hpz := Hes.out j
     rw [<- hp.out] at hpz
     clear y0 y1 hrow z1 z2 z3
     by_cases hed : xs[k].es[j].d = a
     ·have hed2 : (xs[k].es[j].d != a) = false := by simpa using hed
      have Hcl := Lib.hid (hck.out (Hin.out hed) wr.drew (hv.out.next (belN B1 hbel).drew))
      have Hst := Lib.hid (Hyes.out hed)
      obtain ⟨e3, he3⟩ : ∃ e3, xs[k].es[j].s = e3 := ⟨_, rfl⟩
      rw [he3] at Hst hnz y2
      clear hed he3
      have n1 : ¬ 9223372036854775807 < t.size + 1 := by omega
      have n2 : ¬ 9223372036854775807 < t.size + 1 + e3.size := by omega
      go_wp2_with fail
      go_region_held3 (fun w' => w'.cell? ⟨w.heap.size, 0, none⟩ = some (.int .i64 nx) /\ w'.cell? ⟨w.heap.size, 1, none⟩ = some (.slice (some ⟨b, ob, none⟩) n c) /\ w'.cell? ⟨b, ob + k * 5, none⟩ = some (.int .i64 xs[k].id))
       (first | go_keep | (refine ⟨keep1 hb5 ?_, keep1 hb5 ?_, keep1 hb5 ?_⟩ <;> go_keep))
       (first | (go_at_call 62; refine Hcl.out.mono ?_; rintro e w5 ⟨rfl, hb5⟩))
      have b5 := hbel.drew.trans (hb5.mono hbel.size)
      have v01 := kp_ b5 V1.out
      have z04 := kp_ hb5 (show wr.drew.cell? _ = _ from z4)
      have y02 := kp_ hb5 (show wr.drew.cell? _ = _ from y2)
      clear v0 v1 z0 z4 y2 y3
      by_cases hp0 : p.size = 0
      ·obtain rfl : fb = false := by rw [hfb.out]; unfold foundB; simp [hp0]
       have Hn := Lib.hid (show textE t a xs[k].es q (j + 1) = t ++ sep ++ e3 by rw [Hst.out, <- hp.out]; unfold tpick; rw [if_pos (.inl hp0)])
       have Hfd := Lib.hid (show true = foundB (t ++ sep ++ e3) by unfold foundB; rw [ByteArray.size_append, ByteArray.size_append, sep_size]; simp)
       clear hp0
       go_wp2
       go_roundw
       case rel => exact ⟨j + 1, t ++ sep ++ e3, true, by omega, by go_num, rfl, rfl, Hn.out.symm, Hfd, b5⟩
       case measure => simp [intOf]; omega
      ·obtain rfl : fb = true := by rw [hfb.out]; unfold foundB; simp [hp0]
       rcases hl : Op.bytesLess (t ++ sep ++ e3).toList p.toList with _ | _
       ·have Hn := Lib.hid (show textE t a xs[k].es q (j + 1) = p by rw [Hst.out, <- hp.out]; unfold tpick; rw [if_neg (by rintro (h | h); exact hp0 h; rw [hl] at h; cases h)])
        have hl2 : Op.bytesLess (t ++ (⟨#[47]⟩ : ByteArray) ++ e3).toList p.toList = false := hl
        clear hp0 hl
        go_wp2
        go_roundw
        case rel => exact ⟨j + 1, p, true, by omega, by go_num, rfl, rfl, Hn.out.symm, hfb, b5⟩
        case measure => simp [intOf]; omega
       ·have Hn := Lib.hid (show textE t a xs[k].es q (j + 1) = t ++ sep ++ e3 by rw [Hst.out, <- hp.out]; unfold tpick; rw [if_pos (.inr hl)])
        have Hfd := Lib.hid (show true = foundB (t ++ sep ++ e3) by unfold foundB; rw [ByteArray.size_append, ByteArray.size_append, sep_size]; simp)
        have hl2 : Op.bytesLess (t ++ (⟨#[47]⟩ : ByteArray) ++ e3).toList p.toList = true := hl
        clear hp0 hl
        go_wp2
        go_roundw
        case rel => exact ⟨j + 1, t ++ sep ++ e3, true, by omega, by go_num, rfl, rfl, Hn.out.symm, Hfd, b5⟩
        case measure => simp [intOf]; omega
     ·have hed2 : (xs[k].es[j].d != a) = true := by simpa using hed
      have Hn := Lib.hid (show p = textE t a xs[k].es q (j + 1) by rw [Hno.out hed]; exact hp.out)
      clear hed
      go_wp2
      go_roundw
      case rel => exact ⟨j + 1, p, fb, by omega, by go_num, rfl, rfl, Hn.out, hfb, hbel⟩
      case measure => simp [intOf]; omega
    ·have hje : j = xs[k].es.length := by omega
     have Hn := Lib.hid (show p = textI xs T a (k + 1) by rw [Hs.out, hp.out, hje, hq.out])
     clear hrow z0 z1 z2 z3
     go_wp2
     go_roundw
     case rel => exact ⟨k + 1, p, fb, by omega, by go_num, rfl, rfl, Hn.out, hfb, hbel⟩
     case measure => simp [intOf]; omega
  ·obtain rfl : k = n := by omega
   go_wp2
   refine bodyPost_ret (v := .tuple #[.string q, .bool fb]) (by simp [results, Tryz.results62, go_sem]) rfl ⟨up_end (hq.out.trans HR.out) (by rw [hfb.out, hq.out, HR.out]) rfl, belN B1 hbel⟩

theorem l20Up_dir (v : Value) (V : VolD) (hn : V.xs.length <= 10000000) (hz : ∀ x ∈ V.xs, x.es.length <= 10000000) (hzs : ∀ x ∈ V.xs, ∀ e ∈ x.es, e.s.size <= 2000000) (hp : VolP V.nx V.xs) : ∀ (n : Nat) (a S : Int), IsDirI V.xs a -> dpt V.xs a = n -> (n : Int) <= S -> S <= 16 -> ∀ (w : World), IsVol w v V ->
  Calls Tryz.prog 62 #[v, .int .i64 a, .int .i64 S] w fun e w' => e = .returned (.tuple #[.string (txt V.xs a), .bool true]) /\ Below w.heap.size w w' := by
 intro n
 have root : ∀ (S : Int) (w : World), IsVol w v V -> Calls Tryz.prog 62 #[v, .int .i64 1, .int .i64 S] w fun e w' => e = .returned (.tuple #[.string (txt V.xs 1), .bool true]) /\ Below w.heap.size w w' := fun S w h => by
  rw [txt_one hp]; exact l20Up_one v V S w h
 induction n with
 | zero =>
  intro a S hd h0 _ _ w h
  by_cases ha : a = 1
  ·subst ha; exact root S w h
  ·obtain ⟨b, _, h1, _⟩ := up_one hp ha hd
   omega
 | succ n ih =>
  intro a S hd h0 hS1 hS2 w h
  by_cases ha : a = 1
  ·subst ha; exact root S w h
  ·obtain ⟨b, hb, h1, hall, ht⟩ := up_text hp ha hd
   have htx := ht (txtT V.xs) (txtT_dir hp hzs hb)
   obtain ⟨_, _, _, hf, _⟩ := up_one hp ha hd
   have hne : foundB (textI V.xs (txtT V.xs) a V.xs.length) = true := by
    unfold foundB
    have : pairs V.xs a ≠ [] := by
     obtain ⟨x, hx, e, he, hea⟩ := fndI_all.1 hf
     exact List.ne_nil_of_mem (pairs_mem.2 ⟨x, hx, e, he, hea, rfl⟩)
    rw [textI_all]
    simpa using foldT_some (T := txtT V.xs) (pairs V.xs a) ⟨#[]⟩ (.inr this)
   refine (l20Up_gen v V hn hz hzs (txtT V.xs) (txtT_bd V.xs) a ha S (by omega) hS2 w h fun x hx hh W hW => ?_).mono fun e w' ⟨he, hb'⟩ => ⟨by rw [he, hne, htx], hb'⟩
   rw [hall x hx hh, txtT_dir hp hzs hb]
   exact ih b (S - 1) hb (by omega) (by omega) (by omega) W hW
theorem l20Up_any (v : Value) (V : VolD) (hn : V.xs.length <= 10000000) (hz : ∀ x ∈ V.xs, x.es.length <= 10000000) (hzs : ∀ x ∈ V.xs, ∀ e ∈ x.es, e.s.size <= 2000000) (hp : VolP V.nx V.xs) (a : Int) (ha : a ≠ 1) (hpl : 0 <= plc V.xs a) (w : World) (h : IsVol w v V) :
  Calls Tryz.prog 62 #[v, .int .i64 a, .int .i64 16] w fun e w' => e = .returned (.tuple #[.string (textI V.xs (txtT V.xs) a V.xs.length), .bool true]) /\ Below w.heap.size w w' := by
 have hne : foundB (textI V.xs (txtT V.xs) a V.xs.length) = true := by
  unfold foundB
  have : pairs V.xs a ≠ [] := by
   obtain ⟨x, hx, e, he, hea⟩ := has_up hp ha hpl
   exact List.ne_nil_of_mem (pairs_mem.2 ⟨x, hx, e, he, hea, rfl⟩)
  rw [textI_all]
  simpa using foldT_some (T := txtT V.xs) (pairs V.xs a) ⟨#[]⟩ (.inr this)
 refine (l20Up_gen v V hn hz hzs (txtT V.xs) (txtT_bd V.xs) a ha 16 (by omega) (by omega) w h fun x hx hh W hW => ?_).mono fun e w' ⟨he, hb'⟩ => ⟨by rw [he, hne], hb'⟩
 have hd := up_is hp hx hh
 have hs := dpt_short hp hd
 rw [txtT_dir hp hzs hd]
 exact l20Up_dir v V hn hz hzs hp _ x.id 15 hd rfl (by omega) (by omega) W hW

theorem pathOf_spec (v : Value) (V : VolD) (sm : szV V <= 1048576) (a : Int) (w : World) (hC : IsVolC w v V) :
  Calls Tryz.prog 22 #[v, .int .i64 a] w fun e w' => e = .returned (.tuple #[.string (pathP V a).1, .bool (pathP V a).2]) /\ Below w.heap.size w w' := by
 have Hok := Lib.hid (fun W hW => volOk_spec v V sm W hW)
 have Hat := Lib.hid (fun W hW => l6At_any v V (v_len sm) a W hW)
 have Hd := Lib.hid (fun hp ha hpl W hW => l20Up_any v V (v_len sm) (v_rows sm) (fun x hx => v_names sm hx) hp a ha hpl W hW)
 have hv := Lib.hid hC
 have h := hC.is
 obtain ⟨A, c, rfl, h⟩ := h
 obtain ⟨nx, xs⟩ := V
 simp only at Hok Hat Hd
 clear h sm hC
 obtain ⟨n, hn'⟩ : ∃ n, xs.length = n := ⟨_, rfl⟩
 have HL := Lib.hid hn'
 simp only [hn'] at Hok Hat Hd hv ⊢
 clear hn'
 obtain ⟨R, hR⟩ : ∃ R, textI xs (txtT xs) a n = R := ⟨_, rfl⟩
 have HR := Lib.hid hR
 simp only [hR] at Hd
 clear hR
 obtain ⟨W1, hW1⟩ : ∃ W1, w.alloc (.cells #[.int .i64 nx, .slice A n c] 26) = W1 := ⟨_, rfl⟩
 have B1 : Below w.heap.size w W1 := by rw [<- hW1]; exact belA (bel0 w) _
 have hV : Blk W1 w.heap.size 26 #[.int .i64 nx, .slice A n c] := by rw [<- hW1]; exact Blk.new' _ _ _ _ rfl
 have HW1 := Lib.hid hW1
 have V0 := Lib.hid (hV.get 0 rfl)
 have V1 := Lib.hid (hV.get 1 rfl)
 clear hW1 hV
 rcases hok : volOkB nx xs with _ | _
 ·have Hf := Lib.hid (show pathP ⟨nx, xs⟩ a = (⟨#[]⟩, false) by unfold pathP; simp [hok])
  go_enter Tryz.func22, Tryz.ntmps22
  go_wp2_with fail
  rw [HW1.out]
  refine (Hok.out W1 (hv.out.next B1)).mono ?_
  rintro e w2 ⟨rfl, hb2⟩
  rw [hok]
  go_wp2
  refine bodyPost_ret (v := .tuple #[.string ⟨#[]⟩, .bool false]) (by simp [results, Tryz.results22, go_sem]) rfl ⟨path_end Hf.out rfl, belN B1 hb2⟩
 ·have hp := volOkB_iff.1 hok
  obtain ⟨p, hpl⟩ : ∃ p, plc xs a = p := ⟨_, rfl⟩
  have Hpl := Lib.hid hpl
  simp only [hpl] at Hat
  have Hd2 := Lib.hid (Hd.out hp)
  clear hp hpl
  have Hok2 := Lib.hid hok
  clear hok
  by_cases hp0 : p < 0
  ·have Hf := Lib.hid (show pathP ⟨nx, xs⟩ a = (⟨#[]⟩, false) by unfold pathP; rw [if_neg]; simp only; rw [Hpl.out]; omega)
   go_enter Tryz.func22, Tryz.ntmps22
   go_wp2_with fail
   rw [HW1.out]
   refine (Hok.out W1 (hv.out.next B1)).mono ?_
   rintro e w2 ⟨rfl, hb2⟩
   rw [Hok2.out]
   have v0 := kp_ hb2 V0.out
   have v1 := kp_ hb2 V1.out
   go_wp2_with fail
   refine (Hat.out w2 (hv.out.next (belN B1 hb2)).is).mono ?_
   rintro e w3 ⟨rfl, hb3⟩
   clear v0 v1
   go_wp2
   refine bodyPost_ret (v := .tuple #[.string ⟨#[]⟩, .bool false]) (by simp [results, Tryz.results22, go_sem]) rfl ⟨path_end Hf.out rfl, belN B1 (hb2.trans (hb3.mono hb2.size))⟩
  ·by_cases ha : a = 1
   ·have Hf := Lib.hid (show pathP ⟨nx, xs⟩ a = (⟨#[47]⟩, true) by
     unfold pathP
     rw [if_pos (show volOkB nx xs = true /\ 0 <= plc xs a from ⟨Hok2.out, by rw [Hpl.out]; omega⟩), if_pos ha])
    subst ha
    go_enter Tryz.func22, Tryz.ntmps22
    go_wp2_with fail
    rw [HW1.out]
    refine (Hok.out W1 (hv.out.next B1)).mono ?_
    rintro e w2 ⟨rfl, hb2⟩
    rw [Hok2.out]
    have v0 := kp_ hb2 V0.out
    have v1 := kp_ hb2 V1.out
    go_wp2_with fail
    refine (Hat.out w2 (hv.out.next (belN B1 hb2)).is).mono ?_
    rintro e w3 ⟨rfl, hb3⟩
    clear v0 v1
    go_wp2
    refine bodyPost_ret (v := .tuple #[.string ⟨#[47]⟩, .bool true]) (by simp [results, Tryz.results22, go_sem]) rfl ⟨path_end Hf.out rfl, belN B1 (hb2.trans (hb3.mono hb2.size))⟩
   ·have Hf := Lib.hid (show pathP ⟨nx, xs⟩ a = (R, true) by
     unfold pathP
     rw [if_pos (show volOkB nx xs = true /\ 0 <= plc xs a from ⟨Hok2.out, by rw [Hpl.out]; omega⟩), if_neg ha]
     simp only; rw [HL.out, HR.out])
    have ha1 : (a == 1) = false := by simpa using ha
    have Hd3 := Lib.hid (Hd2.out ha (by rw [Hpl.out]; omega))
    clear ha
    go_enter Tryz.func22, Tryz.ntmps22
    go_wp2_with fail
    rw [HW1.out]
    refine (Hok.out W1 (hv.out.next B1)).mono ?_
    rintro e w2 ⟨rfl, hb2⟩
    rw [Hok2.out]
    have v0 := kp_ hb2 V0.out
    have v1 := kp_ hb2 V1.out
    go_wp2_with fail
    refine (Hat.out w2 (hv.out.next (belN B1 hb2)).is).mono ?_
    rintro e w3 ⟨rfl, hb3⟩
    have b3 := hb2.trans (hb3.mono hb2.size)
    clear v0 v1
    have v0 := kp_ b3 V0.out
    have v1 := kp_ b3 V1.out
    go_wp2_with fail
    refine (Hd3.out w3 (hv.out.next (belN B1 b3)).is).mono ?_
    rintro e w4 ⟨rfl, hb4⟩
    clear v0 v1
    go_wp2
    refine bodyPost_ret (v := .tuple #[.string R, .bool true]) (by simp [results, Tryz.results22, go_sem]) rfl ⟨path_end Hf.out rfl, belN (belN B1 b3) hb4⟩

end Go.Proofs.YtjjniapamdleoaaGreatDoor
