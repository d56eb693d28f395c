/- A name is changed, or moved to another directory, in a volume that calls have made: l6Rename. -/
import Derived.Test.YtjjniapamdleoaaGreatDoorRSL6M
import Derived.Test.YtjjniapamdleoaaGreatDoorRSVolB
import Derived.Deep.CutBlock
namespace Go.Proofs.YtjjniapamdleoaaGreatDoor
open Go Go.RowKit
set_option maxHeartbeats 8000000
set_option maxRecDepth 100000

theorem QV.alls {K : Int} {V : VolD} (h : QV K V) : (allIds V.xs).length <= 10000000 := by
 have hs := h.sm
 have h1 : (allIds V.xs).length = (V.xs.map fun x => x.es.length).sum := by unfold allIds; rw [List.length_flatMap]; simp
 have h2 := sumQ_le (fun x : InoD => x.es.length) 13 V.xs (fun x hx => (hs.2 x hx).1)
 have h3 : V.xs.length * 13 <= 17 * 13 := Nat.mul_le_mul_right _ hs.1
 omega
theorem dir_sz {ds : List EntD} (h : dirOkB ds = true) : ∀ e ∈ ds, e.s.size <= 2000000 := by
 intro e he
 have h1 := dir_names h e he
 unfold nameOkB at h1
 split at h1
 ·cases h1
 ·simp only [Bool.and_eq_true] at h1
  have := inI_true.1 h1.1.1.1
  omega
theorem l6Ents_n {n m : Nat} (lo g c : Nat) (nx : Int) (xs : List InoD) (vs : List Value) (es : List EntD) (hn : xs.length = n) (hz : n <= 10000000) (a : Int) (k : Nat) (hk : k < xs.length) (hp : plc xs a = (k : Int)) (he : xs[k].es = es) (hm : es.length = m) (w : World) (h : YR w lo g c xs vs) :
  Calls Tryz.prog 220 #[.agg #[.int .i64 nx, .slice (some ⟨g, 0, none⟩) n c], .int .i64 a] w fun e w' => ∃ v, vs[k]? = some v /\ e = .returned v /\ w'.ownsRow lo 38 4 v m (ES es) /\ Below w.heap.size w w' := by
 subst hn
 subst he
 subst hm
 exact l6Ents_own lo g c nx xs vs hz a k hk hp w h
theorem putE_putE {xs : List InoD} {k : Nat} (hk : k < xs.length) (x y : List EntD) : ptE (ptE xs k x) k y = ptE xs k y := by
 have h2 : k < (ptE xs k x).length := by rw [putE_len]; exact hk
 have h3 := putE_same (es := x) hk h2
 rw [putE_at h2, h3, putE_at hk, putE_at hk]
 simp
theorem IC_same {xs : List InoD} {vs : List Value} {k : Nat} (hk : k < xs.length) (hl : vs.length = xs.length) {v : Value} (hv : vs[k]? = some v) (es : List EntD) : IC (ptE xs k es) vs = IC xs vs := by
 have h1 := IC_set4 hk hl es v
 obtain ⟨_, _, _, _, g4⟩ := IC_get xs vs k hk v hv
 have hkl : k < vs.length := by omega
 have h2 : vs.set k v = vs := by
  have : v = vs[k] := by rw [List.getElem?_eq_getElem hkl] at hv; exact (Option.some.inj hv).symm
  rw [this, List.set_getElem_self]
 have h3 : k * 5 + 4 < (IC xs vs).length := (List.getElem?_eq_some_iff.1 g4).1
 have h4 : (IC xs vs).set (k * 5 + 4) v = IC xs vs := by
  have : v = (IC xs vs)[k * 5 + 4] := by rw [List.getElem?_eq_getElem h3] at g4; exact (Option.some.inj g4).symm
  rw [this, List.set_getElem_self]
 rw [h2, h4] at h1
 exact h1.symm
/-- A row of entries is written in place, as long as it was. -/
theorem YR.spell {w w' : World} {lo g c : Nat} {xs : List InoD} {vs : List Value} {k n : Nat} {L : List EntD} {v : Value} (h : YR w lo g c xs vs) (hd : DisV vs) (hk : k < xs.length) (hv : vs[k]? = some v) (hg : w.grownBy w' v.ownBlock) (hn : L.length = n) (hr : w'.ownsRow lo 38 4 v n (ES L)) : YR w' lo g c (ptE xs k L) vs := by
 subst hn
 obtain ⟨h1, h2⟩ := YR.inPlace h hd hk hv hg
 refine ⟨?_, by rw [putE_len]; exact h2.1, fun i hi => ?_⟩
 ·rw [putE_len, IC_same hk h2.1 hv]
  exact h1
 ·have hi' : i < xs.length := by rw [putE_len] at hi; exact hi
  by_cases hik : i = k
  ·subst hik
   rw [putE_same hk hi]
   exact ⟨v, hv, hr⟩
  ·rw [putE_ne hk hik hi]
   exact h2.2 i hi' hik
theorem l6Ents_at (V : VolD) (hn : V.xs.length <= 10000000) (a : Int) (k : Nat) (hk : k < V.xs.length) (hp : plc V.xs a = (k : Int)) (b o c : Nat) (A' : Option Addr) (m c' : Nat) (w : World) (hC : IsVolC w (.agg #[.int .i64 V.nx, .slice (some ⟨b, o, none⟩) V.xs.length c]) V) (z4' : w.cell? ⟨b, o + k * 5 + 4, none⟩ = some (.slice A' m c')) :
  Calls Tryz.prog 220 #[.agg #[.int .i64 V.nx, .slice (some ⟨b, o, none⟩) V.xs.length c], .int .i64 a] w fun e w' => e = .returned (.slice A' m c') /\ Below w.heap.size w w' := by
 have Hat := Lib.hid (fun W hW => l6At_any (.agg #[.int .i64 V.nx, .slice (some ⟨b, o, none⟩) V.xs.length c]) V hn a W hW)
 simp only [hp] at Hat
 have hv := Lib.hid hC
 obtain ⟨nx, xs⟩ := V
 simp only at Hat hn hk hv ⊢
 clear hC hp
 obtain ⟨n, hn'⟩ : ∃ n, xs.length = n := ⟨_, rfl⟩
 have hkn : k < n := by omega
 simp only [hn'] at Hat hv hn ⊢
 clear hn'
 have q0 : (0 : Int) <= ↑k := by omega
 have q1 : (↑k : Int) < ↑n := by omega
 obtain ⟨W1, hW1⟩ : ∃ W1, w.alloc (.cells #[.int .i64 nx, .slice (some ⟨b, o, none⟩) n c] 26) = W1 := ⟨_, rfl⟩
 have B1 : Below w.heap.size w W1 := by rw [<- hW1]; exact belA (bel0 w) _
 have hV : Blk W1 w.heap.size 26 #[.int .i64 nx, .slice (some ⟨b, o, none⟩) n c] := by rw [<- hW1]; exact Blk.new' _ _ _ _ rfl
 have HW1 := Lib.hid hW1
 obtain ⟨v0, v1⟩ := hV.g2
 clear hW1 hV
 have z4 := kp_ B1 z4'
 clear z4'
 go_enter Tryz.func220, Tryz.ntmps220
 go_wp2_with fail
 rw [HW1.out]
 go_region_held3 (fun w' => w'.cell? ⟨w.heap.size, 0, none⟩ = some (.int .i64 nx) /\ w'.cell? ⟨w.heap.size, 1, none⟩ = some (.slice (some ⟨b, o, none⟩) n c) /\ w'.cell? ⟨b, o + k * 5 + 4, none⟩ = some (.slice A' m c'))
  (first | go_keep | (refine ⟨keep1 hb5 ?_, keep1 hb5 ?_, keep1 hb5 ?_⟩ <;> go_keep))
  (first | (go_at_call 54; refine (Hat.out _ (hv.out.next B1.drew).is).mono ?_; rintro e w5 ⟨rfl, hb5⟩))
 go_wp2
 go_ret
 exact ⟨rfl, belN B1.drew hb5⟩
theorem mem4r_w {G P : (World) -> Prop} {R : Prop} (use : (∀ (x0 : World), P x0 -> G x0) -> R) (key : ∀ (x0 : World), P x0 -> G x0) : R := use key
theorem mem4r_nw {G P : (Nat) -> (World) -> Prop} {R : Prop} (use : (∀ (x0 : Nat) (x1 : World), P x0 x1 -> G x0 x1) -> R) (key : ∀ (x0 : Nat) (x1 : World), P x0 x1 -> G x0 x1) : R := use key
theorem l6Ren_any (v : Value) (V : VolD) (K : Int) (hq : QV K V) (hKl : K <= 1000000) (kd a : Int) (s : ByteArray) (tg : Int) (nm dt : ByteArray) (hs : s.size <= 24) (hnz : nm.size <= 24) (k : Nat) (hk : k < V.xs.length) (hp : plc V.xs a = (k : Int)) (k2 : Nat) (hk2 : k2 < V.xs.length) (hp2 : plc V.xs tg = (k2 : Int)) (hd2 : V.xs[k2].kd = 2)
  (i : Nat) (hi : i < V.xs[k].es.length) (hf : V.xs[k].es.find? (isN s) = some V.xs[k].es[i]) (j : Nat) (hj : j < V.xs.length) (xid xkd xln : Int) (xs_ : ByteArray) (Ax : Option Addr) (mx cx : Nat) (hxd : V.xs[k].es[i].d = xid) (hxi : V.xs[j].id = xid) (hxk : V.xs[j].kd = xkd) (w : World) (hC : IsVolC w v V) :
  Calls Tryz.prog 223 #[v, .agg #[.int .i64 kd, .int .i64 a, .string s, .int .i64 tg, .string nm, .string dt], .agg #[.int .i64 xid, .int .i64 xkd, .int .i64 xln, .string xs_, .slice Ax mx cx]] w fun e w' => CallP w v V (K + 1) e w' /\ Below w.heap.size w w' := by
 have hn := hq.len
 have hnm := hq.names hk
 have hnm2 := hq.names hk2
 have Hen := Lib.hid (fun W hW => l6Ents_rd v V (by omega) a k hk hp W hW)
 have Hent := Lib.hid (fun W hW => l6Ents_rd v V (by omega) tg k2 hk2 hp2 W hW)
 have HAtt := Lib.hid (fun W hW => l6At_any v V (by omega) tg W hW)
 have Hat := Lib.hid (fun b W hW => l6At_any v V (by omega) b W hW)
 simp only [hp2] at HAtt
 have hall := hq.alls
 have HBel := Lib.hid (fun b W hW => l6Below_any v V (by omega) hall b W hW)
 have Hcp := Lib.hid (fun W hW => l6Copy_own v V (by omega) (by omega) (fun x hx => by have := (hq.sm.2 x hx).1; omega) W hW)
 have Hq := Lib.hid hq
 have Hqm := Lib.hid (hq.mono (show K <= K + 1 by omega))
 have Hp := Lib.hid hp
 have Hpt := Lib.hid hp2
 have Hd2 := Lib.hid hd2
 have Hf := Lib.hid hf
 have Hxd := Lib.hid hxd
 have Hxi := Lib.hid hxi
 have Hxk := Lib.hid hxk
 have hvv := Lib.hid hC
 obtain ⟨A, c, rfl, hva⟩ := hC.is
 obtain ⟨nx, xs⟩ := V
 simp only at Hen Hent HAtt Hat HBel Hcp hnm hnm2 hn hk hk2 Hp Hpt Hd2 Hf Hxd Hxi Hxk hi hj hva ⊢
 have Hva := Lib.hid hva
 have Hnm := Lib.hid hnm.2
 have hm12 := hnm.1
 have Hnm2 := Lib.hid hnm2.2
 have hm212 := hnm2.1
 clear hC hp hp2 hd2 hf hxd hxi hxk hq hnm hnm2 hva hall
 obtain ⟨m, hm⟩ : ∃ m, xs[k].es.length = m := ⟨_, rfl⟩
 have Hm := Lib.hid hm
 obtain ⟨m2, hm2⟩ : ∃ m, xs[k2].es.length = m := ⟨_, rfl⟩
 have Hm2 := Lib.hid hm2
 simp only [hm] at Hen hm12
 simp only [hm2] at Hent hm212
 clear hm hm2
 obtain ⟨w1, hW1⟩ : ∃ W, (((((w.alloc (.cells #[.int .i64 nx, .slice A xs.length c] 26)).alloc (.cells #[.int .i64 kd, .int .i64 a, .string s, .int .i64 tg, .string nm, .string dt] 95)).alloc (.cells #[.int .i64 xid, .int .i64 xkd, .int .i64 xln, .string xs_, .slice Ax mx cx] 36)).alloc (.cells #[.int .i64 0, .slice none 0 0] 26)).alloc (.cells #[.int .i64 0, .int .i64 0, .string ⟨#[]⟩, .string ⟨#[]⟩] 54)) = W := ⟨_, rfl⟩
 have B1 : Below w.heap.size w w1 := by rw [<- hW1]; exact belA (belA (belA (belA (belA (bel0 w) _) _) _) _) _
 have kV1 : Blk w1 w.heap.size 26 #[.int .i64 nx, .slice A xs.length c] := by rw [<- hW1]; exact (((((Blk.new' _ _ _ _ (by simp)).alloc _).alloc _).alloc _).alloc _)
 have kC1 : Blk w1 (w.heap.size + 1) 95 #[.int .i64 kd, .int .i64 a, .string s, .int .i64 tg, .string nm, .string dt] := by rw [<- hW1]; exact ((((Blk.new' _ _ _ _ (by simp)).alloc _).alloc _).alloc _)
 have kI1 : Blk w1 (w.heap.size + 1 + 1) 36 #[.int .i64 xid, .int .i64 xkd, .int .i64 xln, .string xs_, .slice Ax mx cx] := by rw [<- hW1]; exact (((Blk.new' _ _ _ _ (by simp)).alloc _).alloc _)
 have kX1 : Blk w1 (w.heap.size + 1 + 1 + 1) 26 #[.int .i64 0, .slice none 0 0] := by rw [<- hW1]; exact ((Blk.new' _ _ _ _ (by simp)).alloc _)
 have kR1 : Blk w1 (w.heap.size + 1 + 1 + 1 + 1) 54 #[.int .i64 0, .int .i64 0, .string ⟨#[]⟩, .string ⟨#[]⟩] := by rw [<- hW1]; exact (Blk.new' _ _ _ _ (by simp))
 have s1 : w1.heap.size = w.heap.size + 5 := by rw [<- hW1]; simp
 have HW1 := Lib.hid hW1
 have S1 := Lib.hid s1
 have s1' : w.heap.size + 5 <= w1.heap.size := by omega
 clear hW1 s1
 have i_1 := kI1.get 1 rfl
 go_enter Tryz.func223, Tryz.ntmps223
 go_upto_if 24 with fail
 rw [HW1.out]
 clear HW1 i_1
 go_cut [8] from 22 to 44 (fun _ wx => Hid ((Blk wx w.heap.size 26 #[.int .i64 nx, .slice A xs.length c]) /\ (Blk wx (w.heap.size + 1) 95 #[.int .i64 kd, .int .i64 a, .string s, .int .i64 tg, .string nm, .string dt]) /\ (Blk wx (w.heap.size + 1 + 1) 36 #[.int .i64 xid, .int .i64 xkd, .int .i64 xln, .string xs_, .slice Ax mx cx]) /\ (Blk wx (w.heap.size + 1 + 1 + 1) 26 #[.int .i64 0, .slice none 0 0]) /\ (Blk wx (w.heap.size + 1 + 1 + 1 + 1) 54 #[.int .i64 0, .int .i64 0, .string ⟨#[]⟩, .string ⟨#[]⟩]) /\ Below w.heap.size w wx))
 case first =>
  by_cases hx2 : xkd = 2
  ·have t2 : (xkd == 2) = true := by rw [hx2]; rfl
   clear hx2
   obtain ⟨v_0, v_1⟩ := kV1.g2
   have c_3 := kC1.get 3 rfl
   go_wp2_with fail
   refine (HAtt.out w1 (hvv.out.next B1).is).mono ?_
   rintro e w2 ⟨rfl, hb2⟩
   clear v_0 v_1 c_3
   have B2 := belN B1 hb2
   have s2 := hb2.size
   have kV2 := kV1.below hb2 kV1.lt
   have kC2 := kC1.below hb2 kC1.lt
   have kI2 := kI1.below hb2 kI1.lt
   have kX2 := kX1.below hb2 kX1.lt
   have kR2 := kR1.below hb2 kR1.lt
   clear kV1 kC1 kI1 kX1 kR1
   by_cases htg : tg = xid
   ·have tq : (tg == xid) = true := by simpa using htg
    clear htg
    have c_3 := kC2.get 3 rfl
    have i_0 := kI2.get 0 rfl
    obtain ⟨v_0, v_1⟩ := kV2.g2
    obtain ⟨x_0, x_1⟩ := kX2.g2
    obtain ⟨r_0, r_1, r_2, r_3⟩ := kR2.g4
    obtain ⟨xf0, xf1⟩ := kX2.f2
    have xl := kX2.lt
    obtain ⟨rf0, rf1, rf2, rf3⟩ := kR2.f4
    have rl := kR2.lt
    go_wp2
    refine foldBPL ?_
    intro wf hwf
    obtain ⟨hX, hR, hB⟩ : Blk wf (w.heap.size + 1 + 1 + 1) 26 #[.int .i64 nx, .slice A xs.length c] /\ Blk wf (w.heap.size + 1 + 1 + 1 + 1) 54 #[.int .i64 8, .int .i64 0, .string ⟨#[]⟩, .string ⟨#[]⟩] /\ Below w.heap.size w wf := by
     rw [hwf]
     first
      | exact two_putL _ _ _ _ _ _ kX2 kR2 (by omega) B2 (by omega) (by omega)
      | exact two_putL _ _ _ _ _ _ kX2.drew kR2.drew (by omega) B2.drew (by omega) (by omega)
    clear hwf x_0 x_1 r_0 r_1 r_2 r_3
    obtain ⟨x_0, x_1⟩ := hX.g2
    obtain ⟨r_0, r_1, r_2, r_3⟩ := hR.g4
    refine bodyPost_ret (v := .tuple #[.agg #[.int .i64 nx, .slice A xs.length c], .agg #[.int .i64 8, .int .i64 0, .string ⟨#[]⟩, .string ⟨#[]⟩]]) (by simp [results, Tryz.results223, go_sem, x_0, x_1, r_0, r_1, r_2, r_3]) rfl ⟨⟨_, _, _, rfl, ⟨_, _, _, _, rfl⟩, Hqm.out, .inl ⟨rfl, rfl⟩⟩, hB⟩
   ·have tq : (tg == xid) = false := by simpa using htg
    clear htg
    obtain ⟨v_0, v_1⟩ := kV2.g2
    have c_3 := kC2.get 3 rfl
    have i_0 := kI2.get 0 rfl
    go_wp2_with fail
    refine (HBel.out xid w2 (hvv.out.next B2).is).mono ?_
    rintro e w3 ⟨g3, rfl, own3, hb3⟩
    clear v_0 v_1 c_3 i_0
    obtain ⟨bb, hbb⟩ : ∃ b, w3.cell? ⟨g3, k2, none⟩ = some (.bool b) := by
     have hbl : k2 < (belowB xs xid).length := by have h1 := own3.1; rw [BB_length] at h1; omega
     rcases bool_at hbl with h1 | h1
     ·exact ⟨_, own_bool own3 h1⟩
     ·exact ⟨_, own_bool own3 h1⟩
    have q1 : (0 : Int) <= (k2 : Int) := by omega
    have q2 : (k2 : Int) < ((xs.length : Nat) : Int) := by omega
    have B3 := belN B2 hb3
    have s3 := hb3.size
    have kV3 := kV2.below hb3 kV2.lt
    have kC3 := kC2.below hb3 kC2.lt
    have kI3 := kI2.below hb3 kI2.lt
    have kX3 := kX2.below hb3 kX2.lt
    have kR3 := kR2.below hb3 kR2.lt
    clear kV2 kC2 kI2 kX2 kR2
    clear own3
    rcases bb with _ | _
    ·go_wp2_with fail
     go_meet
     exact Lib.hid ⟨kV3, kC3, kI3, kX3, kR3, B3⟩
    ·skip
     obtain ⟨v_0, v_1⟩ := kV3.g2
     obtain ⟨x_0, x_1⟩ := kX3.g2
     obtain ⟨r_0, r_1, r_2, r_3⟩ := kR3.g4
     obtain ⟨xf0, xf1⟩ := kX3.f2
     have xl := kX3.lt
     obtain ⟨rf0, rf1, rf2, rf3⟩ := kR3.f4
     have rl := kR3.lt
     go_wp2
     refine foldBPL ?_
     intro wf hwf
     obtain ⟨hX, hR, hB⟩ : Blk wf (w.heap.size + 1 + 1 + 1) 26 #[.int .i64 nx, .slice A xs.length c] /\ Blk wf (w.heap.size + 1 + 1 + 1 + 1) 54 #[.int .i64 8, .int .i64 0, .string ⟨#[]⟩, .string ⟨#[]⟩] /\ Below w.heap.size w wf := by
      rw [hwf]
      first
       | exact two_putL _ _ _ _ _ _ kX3 kR3 (by omega) B3 (by omega) (by omega)
       | exact two_putL _ _ _ _ _ _ kX3.drew kR3.drew (by omega) B3.drew (by omega) (by omega)
     clear hwf x_0 x_1 r_0 r_1 r_2 r_3
     obtain ⟨x_0, x_1⟩ := hX.g2
     obtain ⟨r_0, r_1, r_2, r_3⟩ := hR.g4
     refine bodyPost_ret (v := .tuple #[.agg #[.int .i64 nx, .slice A xs.length c], .agg #[.int .i64 8, .int .i64 0, .string ⟨#[]⟩, .string ⟨#[]⟩]]) (by simp [results, Tryz.results223, go_sem, x_0, x_1, r_0, r_1, r_2, r_3]) rfl ⟨⟨_, _, _, rfl, ⟨_, _, _, _, rfl⟩, Hqm.out, .inl ⟨rfl, rfl⟩⟩, hB⟩
  ·have t2 : (xkd == 2) = false := by simpa using hx2
   clear hx2
   go_wp2_with fail
   go_meet
   exact Lib.hid ⟨kV1, kC1, kI1, kX1, kR1, B1⟩
 case rest =>
  obtain ⟨kVc, kCc, kIc, kXc, kRc, Bc⟩ := hcut.out
  clear hcut B1 kV1 kC1 kI1 kX1 kR1
  go_upto_region 5 with fail
  have sc : w.heap.size + 5 <= wc.heap.size := by have := kRc.lt; omega
  obtain ⟨v_0, v_1⟩ := kVc.g2
  have c_3 := kCc.get 3 rfl
  have c_4 := kCc.get 4 rfl
  go_region_held3 (fun w' => w'.cell? ⟨w.heap.size, 0, none⟩ = some (.int .i64 nx) /\ w'.cell? ⟨w.heap.size, 1, none⟩ = some (.slice A xs.length c) /\ w'.cell? ⟨(w.heap.size + 1), 3, none⟩ = some (.int .i64 tg) /\ w'.cell? ⟨(w.heap.size + 1), 4, none⟩ = some (.string nm))
   (first | go_keep | (refine ⟨keep1 hb5 ?_, keep1 hb5 ?_, keep1 hb5 ?_, keep1 hb5 ?_⟩ <;> go_keep) | (refine ⟨keep1 hb6 ?_, keep1 hb6 ?_, keep1 hb6 ?_, keep1 hb6 ?_⟩ <;> go_keep))
   (first
    | (go_at_call 220; refine (Hent.out _ (hvv.out.next Bc.drew)).mono ?_; rintro e w5 ⟨A5, c5, rfl, hr5, hb5⟩)
    | (go_at_call 219; refine (l5At_any A5 m2 c5 _ Hnm2.out (by omega) nm (by omega) _ ((hr5.below hb5).more hb5.size)).mono ?_; rintro e w6 ⟨r, rfl, hidx, hb6⟩))
  clear v_0 v_1 c_3 c_4
  have b6 : Below wc.heap.size wc w6 := (Below.refl wc.heap.size wc).drew.trans (hb5.trans (hb6.mono hb5.size))
  have B6 := belN Bc b6
  have kV6 := kVc.below b6 kVc.lt
  have kC6 := kCc.below b6 kCc.lt
  have kI6 := kIc.below b6 kIc.lt
  have kX6 := kXc.below b6 kXc.lt
  have kR6 := kRc.below b6 kRc.lt
  clear kVc kCc kIc kXc kRc
  have b6s : w.heap.size + 5 <= w6.heap.size := by have := b6.size; omega
  clear hr5 b6 hb5 hb6 Bc
  rcases hidx with ⟨rfl, hf2⟩ | ⟨i2, hi2, rfl, hf2⟩
  ·skip
   have Hf2 := Lib.hid hf2
   clear hf2
   obtain ⟨v_0, v_1⟩ := kV6.g2
   go_wp2_with fail
   refine (Hcp.out w6 (hvv.out.next B6).is).mono ?_
   rintro e w7 ⟨gy, cy, us, rfl, hY, hdis, hb7⟩
   clear v_0 v_1
   have B7 := belN B6 hb7
   have kV7 := kV6.below hb7 kV6.lt
   have kC7 := kC6.below hb7 kC6.lt
   have kI7 := kI6.below hb7 kI6.lt
   have kX7 := kX6.below hb7 kX6.lt
   have kR7 := kR6.below hb7 kR6.lt
   clear kV6 kC6 kI6 kX6 kR6
   obtain ⟨py, hpy⟩ : ∃ q, w7.heap.size = q := ⟨_, rfl⟩
   obtain ⟨w8, hw8⟩ : ∃ W, w7.alloc (.cells #[.int .i64 nx, .slice (some ⟨gy, 0, none⟩) xs.length cy] 26) = W := ⟨_, rfl⟩
   have kY8 : Blk w8 py 26 #[.int .i64 nx, .slice (some ⟨gy, 0, none⟩) xs.length cy] := by rw [<- hw8, <- hpy]; exact Blk.new' _ _ _ _ (by simp)
   have a8 : Below w7.heap.size w7 w8 := by rw [<- hw8]; exact belA (bel0 _) _
   have Hw8 := Lib.hid hw8
   have Hpy := Lib.hid hpy
   have hgy : w6.heap.size <= gy /\ gy < py := by have := hY.hi; omega
   have hle8 : py < w8.heap.size := kY8.lt
   clear hw8 hpy
   have B8 := belN B7 a8
   have Y8 := Lib.hid (hY.below a8)
   have Hdis := Lib.hid hdis
   clear hY hdis
   have kV8 := kV7.below a8 kV7.lt
   have kC8 := kC7.below a8 kC7.lt
   have kI8 := kI7.below a8 kI7.lt
   have kX8 := kX7.below a8 kX7.lt
   have kR8 := kR7.below a8 kR7.lt
   clear kV7 kC7 kI7 kX7 kR7
   go_upto_region 7 with fail
   try rw [Hpy.out]
   rw [Hw8.out]
   clear Hw8 Hpy a8 B7 hb7 B6
   have q7 : ¬ ((0 : Int) <= -1) := by decide
   have q8 : (-1 : Int) < 0 := by decide
   go_region
   go_upto_region 13 with fail
   have d8 : Below w8.heap.size w8 w8.drew := (bel0 w8).drew
   obtain ⟨we, hwe⟩ : ∃ W, w8.drew = W := ⟨_, rfl⟩
   rw [hwe] at d8 ⊢
   clear hwe
   have Be := belN B8 d8
   have Ye := Lib.hid (Y8.out.below d8)
   have kVe := kV8.below d8 kV8.lt
   have kCe := kC8.below d8 kC8.lt
   have kIe := kI8.below d8 kI8.lt
   have kXe := kX8.below d8 kX8.lt
   have kRe := kR8.below d8 kR8.lt
   have kYe := kY8.below d8 kY8.lt
   clear kV8 kC8 kI8 kX8 kR8 kY8
   clear d8 Y8 B8
   have c_1 := kCe.get 1 rfl
   have c_3 := kCe.get 3 rfl
   go_cut [114] from 102 to 114 (fun bz wx => ∃ bb : Bool, bz = .bool bb /\ Hid ((Blk wx w.heap.size 26 #[.int .i64 nx, .slice A xs.length c]) /\ (Blk wx (w.heap.size + 1) 95 #[.int .i64 kd, .int .i64 a, .string s, .int .i64 tg, .string nm, .string dt]) /\ (Blk wx (w.heap.size + 1 + 1) 36 #[.int .i64 xid, .int .i64 xkd, .int .i64 xln, .string xs_, .slice Ax mx cx]) /\ (Blk wx (w.heap.size + 1 + 1 + 1) 26 #[.int .i64 0, .slice none 0 0]) /\ (Blk wx (w.heap.size + 1 + 1 + 1 + 1) 54 #[.int .i64 0, .int .i64 0, .string ⟨#[]⟩, .string ⟨#[]⟩]) /\ (Blk wx py 26 #[.int .i64 nx, .slice (some ⟨gy, 0, none⟩) xs.length cy]) /\ Below w.heap.size w wx /\ YR wx w6.heap.size gy cy xs us))
   case first =>
    by_cases had : a = tg
    ·have t13 : (a != tg) = false := by simpa using had
     clear had
     go_wp2_with fail
     go_meet
     exact ⟨false, rfl, Lib.hid ⟨kVe, kCe, kIe, kXe, kRe, kYe, Be, Ye.out⟩⟩
    ·have t13 : (a != tg) = true := by simpa using had
     clear had
     obtain ⟨v_0, v_1⟩ := kVe.g2
     go_wp2_with fail
     refine (Hent.out we (hvv.out.next Be)).mono ?_
     rintro e w9 ⟨A9, c9, rfl, _, hb9⟩
     clear c_1 c_3 v_0 v_1
     have B9 := belN Be hb9
     have Y9 := Ye.out.below hb9
     have kV9 := kVe.below hb9 kVe.lt
     have kC9 := kCe.below hb9 kCe.lt
     have kI9 := kIe.below hb9 kIe.lt
     have kX9 := kXe.below hb9 kXe.lt
     have kR9 := kRe.below hb9 kRe.lt
     have kY9 := kYe.below hb9 kYe.lt
     clear kVe kCe kIe kXe kRe kYe
     by_cases h12 : (12 : Int) <= (m2 : Int)
     ·have t12 : decide ((12 : Int) <= (m2 : Int)) = true := decide_eq_true h12
      go_wp2_with fail
      go_meet
      exact ⟨true, rfl, Lib.hid ⟨kV9, kC9, kI9, kX9, kR9, kY9, B9, Y9⟩⟩
     ·have t12 : decide ((12 : Int) <= (m2 : Int)) = false := decide_eq_false h12
      go_wp2_with fail
      go_meet
      exact ⟨false, rfl, Lib.hid ⟨kV9, kC9, kI9, kX9, kR9, kY9, B9, Y9⟩⟩
   case rest =>
    obtain ⟨bb, rfl, HR⟩ := hcut
    obtain ⟨kVd, kCd, kId, kXd, kRd, kYd, Bd, Yd0⟩ := HR.out
    have Yd := Lib.hid Yd0
    clear HR Yd0 Ye Be c_1 c_3 kVe kCe kIe kXe kRe kYe
    obtain ⟨wd, hwd⟩ : ∃ W, W = wc := ⟨_, rfl⟩
    subst hwd
    have sd : w.heap.size + 5 <= wd.heap.size /\ py < wd.heap.size := ⟨by have := kRd.lt; omega, kYd.lt⟩
    cases bb
    rotate_left
    ·skip
     obtain ⟨v_0, v_1⟩ := kVd.g2
     obtain ⟨x_0, x_1⟩ := kXd.g2
     obtain ⟨r_0, r_1, r_2, r_3⟩ := kRd.g4
     obtain ⟨xf0, xf1⟩ := kXd.f2
     have xl := kXd.lt
     obtain ⟨rf0, rf1, rf2, rf3⟩ := kRd.f4
     have rl := kRd.lt
     go_wp2
     refine foldBPL ?_
     intro wf hwf
     obtain ⟨hX, hR, hB⟩ : Blk wf (w.heap.size + 1 + 1 + 1) 26 #[.int .i64 nx, .slice A xs.length c] /\ Blk wf (w.heap.size + 1 + 1 + 1 + 1) 54 #[.int .i64 7, .int .i64 0, .string ⟨#[]⟩, .string ⟨#[]⟩] /\ Below w.heap.size w wf := by
      rw [hwf]
      first
       | exact two_putL _ _ _ _ _ _ kXd kRd (by omega) Bd (by omega) (by omega)
       | exact two_putL _ _ _ _ _ _ kXd.drew kRd.drew (by omega) Bd.drew (by omega) (by omega)
     clear hwf x_0 x_1 r_0 r_1 r_2 r_3
     obtain ⟨x_0, x_1⟩ := hX.g2
     obtain ⟨r_0, r_1, r_2, r_3⟩ := hR.g4
     refine bodyPost_ret (v := .tuple #[.agg #[.int .i64 nx, .slice A xs.length c], .agg #[.int .i64 7, .int .i64 0, .string ⟨#[]⟩, .string ⟨#[]⟩]]) (by simp [results, Tryz.results223, go_sem, x_0, x_1, r_0, r_1, r_2, r_3]) rfl ⟨⟨_, _, _, rfl, ⟨_, _, _, _, rfl⟩, Hqm.out, .inl ⟨rfl, rfl⟩⟩, hB⟩
    go_upto_region 15 with fail
    have Hdk := Lib.hid (Hq.out.dir _ (List.getElem_mem hk))
    have Hn15 := Lib.hid (fun W hW => l6Ents_n (n := xs.length) (m := m) w6.heap.size gy cy nx xs us xs[k].es rfl (by omega) a k hk Hp.out rfl Hm.out W hW)
    have hlod : w6.heap.size <= wd.heap.size := by have := Yd.out.hi; omega
    obtain ⟨y_0, y_1⟩ := kYd.g2
    have c_1 := kCd.get 1 rfl
    have c_2 := kCd.get 2 rfl
    go_region_held3 (fun w' => w'.cell? ⟨py, 0, none⟩ = some (.int .i64 nx) /\ w'.cell? ⟨py, 1, none⟩ = some (.slice (some ⟨gy, 0, none⟩) xs.length cy) /\ w'.cell? ⟨(w.heap.size + 1), 1, none⟩ = some (.int .i64 a) /\ w'.cell? ⟨(w.heap.size + 1), 2, none⟩ = some (.string s))
     (first | go_keep | (refine ⟨keep1 hb14 ?_, keep1 hb14 ?_, keep1 hb14 ?_, keep1 hb14 ?_⟩ <;> go_keep) | (refine ⟨keep1 hb15 ?_, keep1 hb15 ?_, keep1 hb15 ?_, keep1 hb15 ?_⟩ <;> go_keep))
     (first
      | (go_at_call 220; refine (Hn15.out _ (Yd.out.below (bel0 wd).drew)).mono ?_; rintro e w14 ⟨vkA, hvkA, rfl, hokA, hb14⟩)
      | (go_at_call 179; refine (l5Drop_any w6.heap.size m vkA xs[k].es Hdk.out (dir_sz Hdk.out) s (by omega) _ (Nat.le_trans hlod hb14.size) hokA).mono ?_; rintro e w15 ⟨⟨LA, bA, vLA, nLA, hPA, hnLA, rfl, hoLA⟩, hb15⟩))
    clear y_0 y_1 c_1 c_2
    subst hnLA
    obtain ⟨AeA, ceA, rfl, _⟩ := own_vals hoLA
    have b15 : Below wd.heap.size wd w15 := ((bel0 wd).drew.trans hb14).trans (hb15.mono hb14.size)
    have HoLA := Lib.hid hoLA
    have Y15 := Lib.hid (Yd.out.below b15)
    have B15 := belN Bd b15
    have kV15 := kVd.below b15 kVd.lt
    have kC15 := kCd.below b15 kCd.lt
    have kI15 := kId.below b15 kId.lt
    have kX15 := kXd.below b15 kXd.lt
    have kR15 := kRd.below b15 kRd.lt
    have kY15 := kYd.below b15 kYd.lt
    clear kVd kCd kId kXd kRd kYd
    have HPA := Lib.hid hPA
    clear hPA hoLA hokA hb14 hb15 b15 Yd Bd
    obtain ⟨y_0, y_1⟩ := kY15.g2
    have c_1 := kC15.get 1 rfl
    go_wp2_with fail
    refine (l6With_n (n := xs.length) w6.heap.size gy cy nx xs us rfl a k hk (Value.slice AeA LA.length ceA) LA _ Y15.out Hp.out (by omega) HoLA.out).mono ?_
    rintro e w16 ⟨rfl, hZ16, hg16⟩
    clear y_0 y_1 c_1
    have hgy16 := Y15.out.hi
    have B16 := belG B15 hg16 (by omega)
    have kV16 := blk_gV kV15 hg16 (show w.heap.size ≠ gy by omega)
    have kC16 := blk_gV kC15 hg16 (show (w.heap.size + 1) ≠ gy by omega)
    have kI16 := blk_gV kI15 hg16 (show (w.heap.size + 1 + 1) ≠ gy by omega)
    have kX16 := blk_gV kX15 hg16 (show (w.heap.size + 1 + 1 + 1) ≠ gy by omega)
    have kR16 := blk_gV kR15 hg16 (show (w.heap.size + 1 + 1 + 1 + 1) ≠ gy by omega)
    have kY16 := blk_gV kY15 hg16 (show py ≠ gy by omega)
    clear kV15 kC15 kI15 kX15 kR15 kY15
    clear hg16 B15 Y15
    have QA := QG.drop Hq.out hk hi Hf.out
    simp only [HPA.out] at QA
    have hl1 : (ptE xs k LA).length = xs.length := putE_len
    have hk21 : k2 < (ptE xs k LA).length := by omega
    have hp21 : plc (ptE xs k LA) tg = (k2 : Int) := by rw [putE_plc hk]; exact Hpt.out
    obtain ⟨x1, hx1⟩ : ∃ z, ptE xs k LA = z := ⟨_, rfl⟩
    obtain ⟨u1, hu1⟩ : ∃ z, us.set k (Value.slice AeA LA.length ceA) = z := ⟨_, rfl⟩
    rw [hx1] at hl1 hp21 QA hZ16
    simp only [hx1] at hk21
    rw [hu1] at hZ16
    have Hx1 := Lib.hid hx1
    have Hl1 := Lib.hid hl1
    have Hp21 := Lib.hid hp21
    obtain ⟨e2, he2⟩ : ∃ z, x1[k2].es = z := ⟨_, rfl⟩
    have hde2 : dirOkB e2 = true := by rw [<- he2]; exact QA.dir _ (List.getElem_mem hk21)
    have Hde2 := Lib.hid hde2
    have He2 := Lib.hid he2
    obtain ⟨m3, hm3⟩ : ∃ z, e2.length = z := ⟨_, rfl⟩
    have Hm3 := Lib.hid hm3
    clear QA hx1 hl1 hp21 hu1 hde2 he2 hm3 HoLA
    obtain ⟨y_0, y_1⟩ := kY16.g2
    obtain ⟨yf0, yf1⟩ := kY16.f2
    have yl := kY16.lt
    go_upto_region 17 with fail
    clear y_0 y_1 yf0 yf1 yl
    obtain ⟨w17, hw17⟩ : ∃ W, (w16.setCell ⟨py, 0, none⟩ (.int .i64 nx)).setCell ⟨py, 1, none⟩ (.slice (some ⟨gy, 0, none⟩) xs.length cy) = W := ⟨_, rfl⟩
    have kV17 : Blk w17 w.heap.size 26 #[.int .i64 nx, .slice A xs.length c] := by rw [<- hw17]; exact (kV16.far (p := ⟨py, 0, none⟩) (show w.heap.size ≠ py by omega) _).far (p := ⟨py, 1, none⟩) (show w.heap.size ≠ py by omega) _
    have kC17 : Blk w17 (w.heap.size + 1) 95 #[.int .i64 kd, .int .i64 a, .string s, .int .i64 tg, .string nm, .string dt] := by rw [<- hw17]; exact (kC16.far (p := ⟨py, 0, none⟩) (show (w.heap.size + 1) ≠ py by omega) _).far (p := ⟨py, 1, none⟩) (show (w.heap.size + 1) ≠ py by omega) _
    have kI17 : Blk w17 (w.heap.size + 1 + 1) 36 #[.int .i64 xid, .int .i64 xkd, .int .i64 xln, .string xs_, .slice Ax mx cx] := by rw [<- hw17]; exact (kI16.far (p := ⟨py, 0, none⟩) (show (w.heap.size + 1 + 1) ≠ py by omega) _).far (p := ⟨py, 1, none⟩) (show (w.heap.size + 1 + 1) ≠ py by omega) _
    have kX17 : Blk w17 (w.heap.size + 1 + 1 + 1) 26 #[.int .i64 0, .slice none 0 0] := by rw [<- hw17]; exact (kX16.far (p := ⟨py, 0, none⟩) (show (w.heap.size + 1 + 1 + 1) ≠ py by omega) _).far (p := ⟨py, 1, none⟩) (show (w.heap.size + 1 + 1 + 1) ≠ py by omega) _
    have kR17 : Blk w17 (w.heap.size + 1 + 1 + 1 + 1) 54 #[.int .i64 0, .int .i64 0, .string ⟨#[]⟩, .string ⟨#[]⟩] := by rw [<- hw17]; exact (kR16.far (p := ⟨py, 0, none⟩) (show (w.heap.size + 1 + 1 + 1 + 1) ≠ py by omega) _).far (p := ⟨py, 1, none⟩) (show (w.heap.size + 1 + 1 + 1 + 1) ≠ py by omega) _
    have kY17 : Blk w17 py 26 #[.int .i64 nx, .slice (some ⟨gy, 0, none⟩) xs.length cy] := by rw [<- hw17]; exact (kY16.put 0 (.int .i64 nx) _ rfl).put 1 (.slice (some ⟨gy, 0, none⟩) xs.length cy) _ rfl
    have Y17 : Hid (YR w17 w6.heap.size gy cy x1 u1) := Lib.hid (by rw [<- hw17]; exact (hZ16.farV kY16 0 _).farV (kY16.put 0 (.int .i64 nx) #[.int .i64 nx, .slice (some ⟨gy, 0, none⟩) xs.length cy] rfl) 1 _)
    have B17 : Below w.heap.size w w17 := by rw [<- hw17]; exact belC (belC B16 py 0 (by omega) _) py 1 (by omega) _
    rw [hw17]
    clear hw17 hZ16 B16 kV16 kC16 kI16 kX16 kR16 kY16
    have Hn19 := Lib.hid (fun W hW => l6Ents_n (n := xs.length) (m := m3) w6.heap.size gy cy nx x1 u1 e2 Hl1.out (by omega) tg k2 hk21 Hp21.out He2.out Hm3.out W hW)
    have hlo17 : w6.heap.size <= w17.heap.size := by have := Y17.out.hi; omega
    obtain ⟨y_0, y_1⟩ := kY17.g2
    have c_3 := kC17.get 3 rfl
    have c_4 := kC17.get 4 rfl
    have i_0 := kI17.get 0 rfl
    go_region_held3 (fun w' => w'.cell? ⟨py, 0, none⟩ = some (.int .i64 nx) /\ w'.cell? ⟨py, 1, none⟩ = some (.slice (some ⟨gy, 0, none⟩) xs.length cy) /\ w'.cell? ⟨(w.heap.size + 1), 3, none⟩ = some (.int .i64 tg) /\ w'.cell? ⟨(w.heap.size + 1), 4, none⟩ = some (.string nm) /\ w'.cell? ⟨(w.heap.size + 1 + 1), 0, none⟩ = some (.int .i64 xid))
     (first | go_keep | (refine ⟨keep1 hb18 ?_, keep1 hb18 ?_, keep1 hb18 ?_, keep1 hb18 ?_, keep1 hb18 ?_⟩ <;> go_keep) | (refine ⟨keep1 hb19 ?_, keep1 hb19 ?_, keep1 hb19 ?_, keep1 hb19 ?_, keep1 hb19 ?_⟩ <;> go_keep))
     (first
      | (go_at_call 220; refine (Hn19.out _ (Y17.out.below (bel0 w17).drew)).mono ?_; rintro e w18 ⟨vkB, hvkB, rfl, hokB, hb18⟩)
      | (go_at_call 180; refine (l5Add_any w6.heap.size m3 vkB e2 Hde2.out (dir_sz Hde2.out) nm (by omega) xid _ (Nat.le_trans hlo17 hb18.size) hokB).mono ?_; rintro e w19 ⟨⟨LB, bB, vLB, nLB, hPB, hnLB, rfl, hoLB⟩, hb19⟩))
    clear y_0 y_1 c_3 c_4 i_0
    subst hnLB
    obtain ⟨AeB, ceB, rfl, _⟩ := own_vals hoLB
    have b19 : Below w17.heap.size w17 w19 := ((bel0 w17).drew.trans hb18).trans (hb19.mono hb18.size)
    have HoLB := Lib.hid hoLB
    have Y19 := Lib.hid (Y17.out.below b19)
    have B19 := belN B17 b19
    have kV19 := kV17.below b19 kV17.lt
    have kC19 := kC17.below b19 kC17.lt
    have kI19 := kI17.below b19 kI17.lt
    have kX19 := kX17.below b19 kX17.lt
    have kR19 := kR17.below b19 kR17.lt
    have kY19 := kY17.below b19 kY17.lt
    clear kV17 kC17 kI17 kX17 kR17 kY17
    have HPB := Lib.hid hPB
    clear hPB hoLB hokB hb18 hb19 b19 Y17 B17
    obtain ⟨y_0, y_1⟩ := kY19.g2
    have c_3 := kC19.get 3 rfl
    go_wp2_with fail
    refine (l6With_n (n := xs.length) w6.heap.size gy cy nx x1 u1 Hl1.out tg k2 hk21 (Value.slice AeB LB.length ceB) LB _ Y19.out Hp21.out (by have := Hl1.out; omega) HoLB.out).mono ?_
    rintro e w20 ⟨rfl, hZ20, hg20⟩
    clear y_0 y_1 c_3
    have hgy20 := Y19.out.hi
    have B20 := belG B19 hg20 (by omega)
    have kV20 := blk_gV kV19 hg20 (show w.heap.size ≠ gy by omega)
    have kC20 := blk_gV kC19 hg20 (show (w.heap.size + 1) ≠ gy by omega)
    have kI20 := blk_gV kI19 hg20 (show (w.heap.size + 1 + 1) ≠ gy by omega)
    have kX20 := blk_gV kX19 hg20 (show (w.heap.size + 1 + 1 + 1) ≠ gy by omega)
    have kR20 := blk_gV kR19 hg20 (show (w.heap.size + 1 + 1 + 1 + 1) ≠ gy by omega)
    have kY20 := blk_gV kY19 hg20 (show py ≠ gy by omega)
    clear kV19 kC19 kI19 kX19 kR19 kY19
    clear hg20 B19 Y19
    obtain ⟨x_0, x_1⟩ := kX20.g2
    obtain ⟨r_0, r_1, r_2, r_3⟩ := kR20.g4
    obtain ⟨xf0, xf1⟩ := kX20.f2
    have xl := kX20.lt
    obtain ⟨rf0, rf1, rf2, rf3⟩ := kR20.f4
    have rl := kR20.lt
    go_wp2
    refine foldBPL ?_
    intro wf hwf
    have YF : YR wf w6.heap.size gy cy (ptE x1 k2 LB) (u1.set k2 (Value.slice AeB LB.length ceB)) := by
     rw [hwf]
     exact ((hZ20.farV kX20 0 _).farV (kX20.put 0 (.int .i64 nx) #[.int .i64 nx, .slice none 0 0] rfl) 1 _).far4 ((kR20.far (p := ⟨w.heap.size + 1 + 1 + 1, 0, none⟩) (show w.heap.size + 1 + 1 + 1 + 1 ≠ w.heap.size + 1 + 1 + 1 by omega) _).far (p := ⟨w.heap.size + 1 + 1 + 1, 1, none⟩) (show w.heap.size + 1 + 1 + 1 + 1 ≠ w.heap.size + 1 + 1 + 1 by omega) _) _ _ _ _
    obtain ⟨hX, hR, hB⟩ : Blk wf (w.heap.size + 1 + 1 + 1) 26 #[.int .i64 nx, .slice (some ⟨gy, 0, none⟩) xs.length cy] /\ Blk wf (w.heap.size + 1 + 1 + 1 + 1) 54 #[.int .i64 0, .int .i64 0, .string ⟨#[]⟩, .string ⟨#[]⟩] /\ Below w.heap.size w wf := by
     rw [hwf]
     first
      | exact two_putL _ _ _ _ _ _ kX20 kR20 (by omega) B20 (by omega) (by omega)
      | exact two_putL _ _ _ _ _ _ kX20.drew kR20.drew (by omega) B20.drew (by omega) (by omega)
    clear hwf x_0 x_1 r_0 r_1 r_2 r_3
    obtain ⟨x_0, x_1⟩ := hX.g2
    obtain ⟨r_0, r_1, r_2, r_3⟩ := hR.g4
    obtain ⟨hm', hun⟩ := QV.move Hq.out hk hi Hf.out hk2 Hd2.out nm
    simp only [HPA.out, Hx1.out, He2.out, Hxd.out, HPB.out] at hun
    refine bodyPost_ret (v := .tuple #[.agg #[.int .i64 nx, .slice (some ⟨gy, 0, none⟩) xs.length cy], .agg #[.int .i64 0, .int .i64 0, .string ⟨#[]⟩, .string ⟨#[]⟩]]) (by simp [results, Tryz.results223, go_sem, x_0, x_1, r_0, r_1, r_2, r_3]) rfl ⟨⟨_, ⟨nx, ptE x1 k2 LB⟩, _, rfl, ⟨_, _, _, _, rfl⟩, hun.mono (by omega), .inr ⟨gy, cy, _, by rw [putE_len, Hl1.out], YF.more (by omega)⟩⟩, hB⟩
  ·skip
   have Hf2 := Lib.hid hf2
   clear hf2
   have him2 : i2 < m2 := by have := Hm2.out; omega
   have q0 : ¬ ((i2 : Int) < 0) := by omega
   have q1 : (0 : Int) <= (i2 : Int) := by omega
   have q2 : (i2 : Int) < (m2 : Int) := by omega
   obtain ⟨v_0, v_1⟩ := kV6.g2
   go_wp2_with fail
   refine (Hcp.out w6 (hvv.out.next B6).is).mono ?_
   rintro e w7 ⟨gy, cy, us, rfl, hY, hdis, hb7⟩
   clear v_0 v_1
   have B7 := belN B6 hb7
   have kV7 := kV6.below hb7 kV6.lt
   have kC7 := kC6.below hb7 kC6.lt
   have kI7 := kI6.below hb7 kI6.lt
   have kX7 := kX6.below hb7 kX6.lt
   have kR7 := kR6.below hb7 kR6.lt
   clear kV6 kC6 kI6 kX6 kR6
   obtain ⟨py, hpy⟩ : ∃ q, w7.heap.size = q := ⟨_, rfl⟩
   obtain ⟨w8, hw8⟩ : ∃ W, w7.alloc (.cells #[.int .i64 nx, .slice (some ⟨gy, 0, none⟩) xs.length cy] 26) = W := ⟨_, rfl⟩
   have kY8 : Blk w8 py 26 #[.int .i64 nx, .slice (some ⟨gy, 0, none⟩) xs.length cy] := by rw [<- hw8, <- hpy]; exact Blk.new' _ _ _ _ (by simp)
   have a8 : Below w7.heap.size w7 w8 := by rw [<- hw8]; exact belA (bel0 _) _
   have Hw8 := Lib.hid hw8
   have Hpy := Lib.hid hpy
   have hgy : w6.heap.size <= gy /\ gy < py := by have := hY.hi; omega
   have hle8 : py < w8.heap.size := kY8.lt
   clear hw8 hpy
   have B8 := belN B7 a8
   have Y8 := Lib.hid (hY.below a8)
   have Hdis := Lib.hid hdis
   clear hY hdis
   have kV8 := kV7.below a8 kV7.lt
   have kC8 := kC7.below a8 kC7.lt
   have kI8 := kI7.below a8 kI7.lt
   have kX8 := kX7.below a8 kX7.lt
   have kR8 := kR7.below a8 kR7.lt
   clear kV7 kC7 kI7 kX7 kR7
   go_upto_region 7 with fail
   try rw [Hpy.out]
   rw [Hw8.out]
   clear Hw8 Hpy a8 B7 hb7 B6
   obtain ⟨E2, hE2⟩ : ∃ E, xs[k2].es[i2] = E := ⟨_, rfl⟩
   obtain ⟨eh2, ei2, en2, ed2⟩ := E2
   have HE2 := Lib.hid hE2
   clear hE2
   obtain ⟨_, b, of_, A9, c9, rfl, hbw, _, _, _, _, z4, hr9⟩ := (Hva.out.below B8).at_ hk2
   rw [Hm2.out] at z4 hr9
   obtain ⟨_, b9, o9, hA9, _, _, _, _, e3⟩ := reads_ent hr9 him2
   subst hA9
   rw [HE2.out] at e3
   simp only at e3
   have Hent9 := Lib.hid (fun W (hW : IsVolC W (.agg #[.int .i64 nx, .slice (some ⟨b, of_, none⟩) xs.length c]) ⟨nx, xs⟩) hz => l6Ents_at ⟨nx, xs⟩ (show xs.length <= 10000000 by omega) tg k2 hk2 Hpt.out b of_ c (some ⟨b9, o9, none⟩) m2 c9 W hW hz)
   clear hr9
   obtain ⟨v_0, v_1⟩ := kV8.g2
   have c_3 := kC8.get 3 rfl
   have i_0 := kI8.get 0 rfl
   go_region_held3 (fun w' => w'.cell? ⟨w.heap.size, 0, none⟩ = some (.int .i64 nx) /\ w'.cell? ⟨w.heap.size, 1, none⟩ = some (.slice (some ⟨b, of_, none⟩) xs.length c) /\ w'.cell? ⟨(w.heap.size + 1), 3, none⟩ = some (.int .i64 tg) /\ w'.cell? ⟨(w.heap.size + 1 + 1), 0, none⟩ = some (.int .i64 xid) /\ w'.cell? ⟨b, of_ + k2 * 5 + 4, none⟩ = some (.slice (some ⟨b9, o9, none⟩) m2 c9) /\ w'.cell? ⟨b9, o9 + i2 * 4 + 3, none⟩ = some (.int .i64 ed2))
    (first | go_keep | (refine ⟨keep1 hb9 ?_, keep1 hb9 ?_, keep1 hb9 ?_, keep1 hb9 ?_, keep1 hb9 ?_, keep1 hb9 ?_⟩ <;> go_keep))
    (first | (go_at_call 220; refine (Hent9.out _ (hvv.out.next B8.drew) (keep1 (bel0 w8).drew z4)).mono ?_; rintro e w9 ⟨rfl, hb9⟩))
   clear v_0 v_1 c_3 i_0
   have b9' : Below w8.heap.size w8 w9 := (bel0 w8).drew.trans hb9
   have B9 := belN B8 b9'
   have Y9 := Lib.hid (Y8.out.below b9')
   have z4 := keep1 b9' z4
   have e3 := keep1 b9' e3
   have kV9 := kV8.below b9' kV8.lt
   have kC9 := kC8.below b9' kC8.lt
   have kI9 := kI8.below b9' kI8.lt
   have kX9 := kX8.below b9' kX8.lt
   have kR9 := kR8.below b9' kR8.lt
   have kY9 := kY8.below b9' kY8.lt
   clear kV8 kC8 kI8 kX8 kR8 kY8
   have hz4 := Lib.hid z4
   have he3 := Lib.hid e3
   have hle9 : py < w9.heap.size := by have := kY9.lt; omega
   clear z4 e3 b9' hb9 Y8 B8
   by_cases hdd : ed2 = xid
   ·have t68 : (ed2 == xid) = true := by simpa using hdd
    have Hdd := Lib.hid hdd
    clear hdd
    go_upto_region 8 with fail
    have c_1 := kC9.get 1 rfl
    have c_3 := kC9.get 3 rfl
    go_cut [80] from 45 to 80 (fun bz wx => ∃ bb : Bool, bz = .bool bb /\ Hid ((Blk wx w.heap.size 26 #[.int .i64 nx, .slice (some ⟨b, of_, none⟩) xs.length c]) /\ (Blk wx (w.heap.size + 1) 95 #[.int .i64 kd, .int .i64 a, .string s, .int .i64 tg, .string nm, .string dt]) /\ (Blk wx (w.heap.size + 1 + 1) 36 #[.int .i64 xid, .int .i64 xkd, .int .i64 xln, .string xs_, .slice Ax mx cx]) /\ (Blk wx (w.heap.size + 1 + 1 + 1) 26 #[.int .i64 0, .slice none 0 0]) /\ (Blk wx (w.heap.size + 1 + 1 + 1 + 1) 54 #[.int .i64 0, .int .i64 0, .string ⟨#[]⟩, .string ⟨#[]⟩]) /\ (Blk wx py 26 #[.int .i64 nx, .slice (some ⟨gy, 0, none⟩) xs.length cy]) /\ Below w.heap.size w wx /\ YR wx w6.heap.size gy cy xs us))
    case first =>
     by_cases had : a = tg
     ·have t8 : (a == tg) = true := by simpa using had
      clear had
      have c_2 := kC9.get 2 rfl
      have c_4 := kC9.get 4 rfl
      go_wp2_with fail
      refine (alike_spec s nm (by omega) (by omega) _).mono ?_
      rintro e w10 ⟨rfl, hb10⟩
      clear c_1 c_2 c_3 c_4
      have B10 := belN B9 hb10
      have Y10 := Y9.out.below hb10
      have kV10 := kV9.below hb10 kV9.lt
      have kC10 := kC9.below hb10 kC9.lt
      have kI10 := kI9.below hb10 kI9.lt
      have kX10 := kX9.below hb10 kX9.lt
      have kR10 := kR9.below hb10 kR9.lt
      have kY10 := kY9.below hb10 kY9.lt
      clear kV9 kC9 kI9 kX9 kR9 kY9
      rcases alikeB s nm with _ | _
      ·go_wp2_with fail
       go_meet
       exact ⟨false, rfl, Lib.hid ⟨kV10, kC10, kI10, kX10, kR10, kY10, B10, Y10⟩⟩
      ·go_wp2_with fail
       go_meet
       exact ⟨true, rfl, Lib.hid ⟨kV10, kC10, kI10, kX10, kR10, kY10, B10, Y10⟩⟩
     ·have t8 : (a == tg) = false := by simpa using had
      clear had
      go_wp2_with fail
      go_meet
      exact ⟨false, rfl, Lib.hid ⟨kV9, kC9, kI9, kX9, kR9, kY9, B9, Y9.out⟩⟩
    case rest =>
     obtain ⟨bb, rfl, HR⟩ := hcut
     obtain ⟨kVd, kCd, kId, kXd, kRd, kYd, Bd, Yd0⟩ := HR.out
     have Yd := Lib.hid Yd0
     clear HR Yd0 Y9 B9 c_1 c_3 kV9 kC9 kI9 kX9 kR9 kY9
     obtain ⟨wd, hwd⟩ : ∃ W, W = wc := ⟨_, rfl⟩
     subst hwd
     have sd : w.heap.size + 5 <= wd.heap.size /\ py < wd.heap.size := ⟨by have := kRd.lt; omega, kYd.lt⟩
     cases bb
     ·go_upto_region 11 with fail
      obtain ⟨y_0, y_1⟩ := kYd.g2
      obtain ⟨x_0, x_1⟩ := kXd.g2
      obtain ⟨r_0, r_1, r_2, r_3⟩ := kRd.g4
      obtain ⟨xf0, xf1⟩ := kXd.f2
      have xl := kXd.lt
      obtain ⟨rf0, rf1, rf2, rf3⟩ := kRd.f4
      have rl := kRd.lt
      go_wp2
      refine foldBPL ?_
      intro wf hwf
      have YF : YR wf w6.heap.size gy cy xs us := by
       rw [hwf]
       exact ((Yd.out.farV kXd 0 _).farV (kXd.put 0 (.int .i64 nx) #[.int .i64 nx, .slice none 0 0] rfl) 1 _).far4 ((kRd.far (p := ⟨w.heap.size + 1 + 1 + 1, 0, none⟩) (show w.heap.size + 1 + 1 + 1 + 1 ≠ w.heap.size + 1 + 1 + 1 by omega) _).far (p := ⟨w.heap.size + 1 + 1 + 1, 1, none⟩) (show w.heap.size + 1 + 1 + 1 + 1 ≠ w.heap.size + 1 + 1 + 1 by omega) _) _ _ _ _
      obtain ⟨hX, hR, hB⟩ : Blk wf (w.heap.size + 1 + 1 + 1) 26 #[.int .i64 nx, .slice (some ⟨gy, 0, none⟩) xs.length cy] /\ Blk wf (w.heap.size + 1 + 1 + 1 + 1) 54 #[.int .i64 0, .int .i64 0, .string ⟨#[]⟩, .string ⟨#[]⟩] /\ Below w.heap.size w wf := by
       rw [hwf]
       first
        | exact two_putL _ _ _ _ _ _ kXd kRd (by omega) Bd (by omega) (by omega)
        | exact two_putL _ _ _ _ _ _ kXd.drew kRd.drew (by omega) Bd.drew (by omega) (by omega)
      clear hwf x_0 x_1 r_0 r_1 r_2 r_3
      obtain ⟨x_0, x_1⟩ := hX.g2
      obtain ⟨r_0, r_1, r_2, r_3⟩ := hR.g4
      refine bodyPost_ret (v := .tuple #[.agg #[.int .i64 nx, .slice (some ⟨gy, 0, none⟩) xs.length cy], .agg #[.int .i64 0, .int .i64 0, .string ⟨#[]⟩, .string ⟨#[]⟩]]) (by simp [results, Tryz.results223, go_sem, x_0, x_1, r_0, r_1, r_2, r_3]) rfl ⟨⟨_, ⟨nx, xs⟩, _, rfl, ⟨_, _, _, _, rfl⟩, Hqm.out, .inr ⟨gy, cy, us, rfl, YF.more (by omega)⟩⟩, hB⟩
     ·go_upto_region 9 with fail
      have Hdk2 := Lib.hid (Hq.out.dir _ (List.getElem_mem hk2))
      have Hn15 := Lib.hid (fun W hW => l6Ents_n (n := xs.length) (m := m2) w6.heap.size gy cy nx xs us xs[k2].es rfl (by omega) tg k2 hk2 Hpt.out rfl Hm2.out W hW)
      have hlod : w6.heap.size <= wd.heap.size := by have := Yd.out.hi; omega
      obtain ⟨y_0, y_1⟩ := kYd.g2
      have c_3 := kCd.get 3 rfl
      have c_4 := kCd.get 4 rfl
      have i_0 := kId.get 0 rfl
      go_region_held3 (fun w' => w'.cell? ⟨py, 0, none⟩ = some (.int .i64 nx) /\ w'.cell? ⟨py, 1, none⟩ = some (.slice (some ⟨gy, 0, none⟩) xs.length cy) /\ w'.cell? ⟨(w.heap.size + 1), 3, none⟩ = some (.int .i64 tg) /\ w'.cell? ⟨(w.heap.size + 1), 4, none⟩ = some (.string nm) /\ w'.cell? ⟨(w.heap.size + 1 + 1), 0, none⟩ = some (.int .i64 xid))
       (first | go_keep | (refine ⟨keep1 hb14 ?_, keep1 hb14 ?_, keep1 hb14 ?_, keep1 hb14 ?_, keep1 hb14 ?_⟩ <;> go_keep) | (exact ⟨kY15.get 0 rfl, kY15.get 1 rfl, kC15.get 3 rfl, kC15.get 4 rfl, kI15.get 0 rfl⟩))
       (first
        | (go_at_call 220; refine (Hn15.out _ (Yd.out.below (bel0 wd).drew)).mono ?_; rintro e w14 ⟨vkR, hvkR, rfl, hokR, hb14⟩)
        | (go_at_call 242; refine (l5Respell_own w6.heap.size m2 vkR xs[k2].es Hdk2.out (dir_sz Hdk2.out) nm (by omega) xid _ hokR).mono ?_; rintro e w15 ⟨⟨LR, bR, hPR, hnLR, rfl, hoLR⟩, hg15⟩; have bm14 := (bel0 wd).drew.trans hb14; have kV15 := (kVd.below bm14 kVd.lt).grown hg15 (fun e => own_blk_ne hokR (kVd.below bm14 kVd.lt) (by decide) e.symm); have kC15 := (kCd.below bm14 kCd.lt).grown hg15 (fun e => own_blk_ne hokR (kCd.below bm14 kCd.lt) (by decide) e.symm); have kI15 := (kId.below bm14 kId.lt).grown hg15 (fun e => own_blk_ne hokR (kId.below bm14 kId.lt) (by decide) e.symm); have kX15 := (kXd.below bm14 kXd.lt).grown hg15 (fun e => own_blk_ne hokR (kXd.below bm14 kXd.lt) (by decide) e.symm); have kR15 := (kRd.below bm14 kRd.lt).grown hg15 (fun e => own_blk_ne hokR (kRd.below bm14 kRd.lt) (by decide) e.symm); have kY15 := (kYd.below bm14 kYd.lt).grown hg15 (fun e => own_blk_ne hokR (kYd.below bm14 kYd.lt) (by decide) e.symm)))
      clear y_0 y_1 c_3 c_4 i_0
      have Y15 := Lib.hid (YR.spell (Yd.out.below ((bel0 wd).drew.trans hb14)) Hdis.out hk2 hvkR hg15 hnLR hoLR)
      have hgb15 : wd.grownBy w15 vkR.ownBlock := (gb_any ((bel0 wd).drew.trans hb14)).trans hg15
      have Bq15 := belN Bd ((bel0 wd).drew.trans hb14)
      have B15 : Below w.heap.size w w15 := Bq15.grown hg15 Bq15.size (fun g e => by have := (hokR.lt g e).1; omega)
      clear Bq15
      have HoLR := Lib.hid hoLR
      have HPR := Lib.hid hPR
      have HnLR := Lib.hid hnLR
      clear hPR hoLR hnLR hokR hb14 hg15 hgb15 Yd Bd kVd kCd kId kXd kRd kYd
      have hk2r : k2 < (ptE xs k2 LR).length := by rw [putE_len]; exact hk2
      have hpr : plc (ptE xs k2 LR) tg = (k2 : Int) := by rw [putE_plc hk2]; exact Hpt.out
      have Hpr := Lib.hid hpr
      clear hpr
      obtain ⟨y_0, y_1⟩ := kY15.g2
      have c_3 := kC15.get 3 rfl
      go_wp2_with fail
      refine (l6With_n (n := xs.length) w6.heap.size gy cy nx (ptE xs k2 LR) us putE_len tg k2 hk2r vkR LR _ Y15.out Hpr.out (by rw [putE_len]; omega) (by rw [HnLR.out]; exact HoLR.out)).mono ?_
      rintro e w16 ⟨rfl, hZ16, hg16⟩
      clear y_0 y_1 c_3
      have hgy16 := Y15.out.hi
      have B16 := belG B15 hg16 (by omega)
      have kV16 := blk_gV kV15 hg16 (show w.heap.size ≠ gy by omega)
      have kC16 := blk_gV kC15 hg16 (show (w.heap.size + 1) ≠ gy by omega)
      have kI16 := blk_gV kI15 hg16 (show (w.heap.size + 1 + 1) ≠ gy by omega)
      have kX16 := blk_gV kX15 hg16 (show (w.heap.size + 1 + 1 + 1) ≠ gy by omega)
      have kR16 := blk_gV kR15 hg16 (show (w.heap.size + 1 + 1 + 1 + 1) ≠ gy by omega)
      have kY16 := blk_gV kY15 hg16 (show py ≠ gy by omega)
      clear kV15 kC15 kI15 kX15 kR15 kY15
      clear hg16 B15 Y15
      rw [putE_putE hk2] at hZ16
      obtain ⟨x1, hx1⟩ : ∃ z, ptE xs k2 LR = z := ⟨_, rfl⟩
      obtain ⟨u1, hu1⟩ : ∃ z, us.set k2 vkR = z := ⟨_, rfl⟩
      rw [hx1, hu1] at hZ16
      have hl1 : x1.length = xs.length := by rw [<- hx1]; exact putE_len
      have hp11 : plc x1 a = (k : Int) := by rw [<- hx1, putE_plc hk2]; exact Hp.out
      have hk1 : k < x1.length := by omega
      have Hx1 := Lib.hid hx1
      have Hl1 := Lib.hid hl1
      have Hp11 := Lib.hid hp11
      clear hx1 hu1 hl1 hp11 HoLR Hpr hk2r
      obtain ⟨y_0, y_1⟩ := kY16.g2
      obtain ⟨yf0, yf1⟩ := kY16.f2
      have yl := kY16.lt
      go_upto_region 11 with fail
      clear y_0 y_1 yf0 yf1 yl
      obtain ⟨w17, hw17⟩ : ∃ W, (w16.setCell ⟨py, 0, none⟩ (.int .i64 nx)).setCell ⟨py, 1, none⟩ (.slice (some ⟨gy, 0, none⟩) xs.length cy) = W := ⟨_, rfl⟩
      have kV17 : Blk w17 w.heap.size 26 #[.int .i64 nx, .slice (some ⟨b, of_, none⟩) xs.length c] := by rw [<- hw17]; exact (kV16.far (p := ⟨py, 0, none⟩) (show w.heap.size ≠ py by omega) _).far (p := ⟨py, 1, none⟩) (show w.heap.size ≠ py by omega) _
      have kC17 : Blk w17 (w.heap.size + 1) 95 #[.int .i64 kd, .int .i64 a, .string s, .int .i64 tg, .string nm, .string dt] := by rw [<- hw17]; exact (kC16.far (p := ⟨py, 0, none⟩) (show (w.heap.size + 1) ≠ py by omega) _).far (p := ⟨py, 1, none⟩) (show (w.heap.size + 1) ≠ py by omega) _
      have kI17 : Blk w17 (w.heap.size + 1 + 1) 36 #[.int .i64 xid, .int .i64 xkd, .int .i64 xln, .string xs_, .slice Ax mx cx] := by rw [<- hw17]; exact (kI16.far (p := ⟨py, 0, none⟩) (show (w.heap.size + 1 + 1) ≠ py by omega) _).far (p := ⟨py, 1, none⟩) (show (w.heap.size + 1 + 1) ≠ py by omega) _
      have kX17 : Blk w17 (w.heap.size + 1 + 1 + 1) 26 #[.int .i64 0, .slice none 0 0] := by rw [<- hw17]; exact (kX16.far (p := ⟨py, 0, none⟩) (show (w.heap.size + 1 + 1 + 1) ≠ py by omega) _).far (p := ⟨py, 1, none⟩) (show (w.heap.size + 1 + 1 + 1) ≠ py by omega) _
      have kR17 : Blk w17 (w.heap.size + 1 + 1 + 1 + 1) 54 #[.int .i64 0, .int .i64 0, .string ⟨#[]⟩, .string ⟨#[]⟩] := by rw [<- hw17]; exact (kR16.far (p := ⟨py, 0, none⟩) (show (w.heap.size + 1 + 1 + 1 + 1) ≠ py by omega) _).far (p := ⟨py, 1, none⟩) (show (w.heap.size + 1 + 1 + 1 + 1) ≠ py by omega) _
      have kY17 : Blk w17 py 26 #[.int .i64 nx, .slice (some ⟨gy, 0, none⟩) xs.length cy] := by rw [<- hw17]; exact (kY16.put 0 (.int .i64 nx) _ rfl).put 1 (.slice (some ⟨gy, 0, none⟩) xs.length cy) _ rfl
      have Y17 : Hid (YR w17 w6.heap.size gy cy x1 u1) := Lib.hid (by rw [<- hw17]; exact (hZ16.farV kY16 0 _).farV (kY16.put 0 (.int .i64 nx) #[.int .i64 nx, .slice (some ⟨gy, 0, none⟩) xs.length cy] rfl) 1 _)
      have B17 : Below w.heap.size w w17 := by rw [<- hw17]; exact belC (belC B16 py 0 (by omega) _) py 1 (by omega) _
      rw [hw17]
      clear hw17 hZ16 B16 kV16 kC16 kI16 kX16 kR16 kY16
      obtain ⟨y_0, y_1⟩ := kY17.g2
      obtain ⟨x_0, x_1⟩ := kX17.g2
      obtain ⟨r_0, r_1, r_2, r_3⟩ := kR17.g4
      obtain ⟨xf0, xf1⟩ := kX17.f2
      have xl := kX17.lt
      obtain ⟨rf0, rf1, rf2, rf3⟩ := kR17.f4
      have rl := kR17.lt
      go_wp2
      refine foldBPL ?_
      intro wf hwf
      have YF : YR wf w6.heap.size gy cy x1 u1 := by
       rw [hwf]
       exact ((Y17.out.farV kX17 0 _).farV (kX17.put 0 (.int .i64 nx) #[.int .i64 nx, .slice none 0 0] rfl) 1 _).far4 ((kR17.far (p := ⟨w.heap.size + 1 + 1 + 1, 0, none⟩) (show w.heap.size + 1 + 1 + 1 + 1 ≠ w.heap.size + 1 + 1 + 1 by omega) _).far (p := ⟨w.heap.size + 1 + 1 + 1, 1, none⟩) (show w.heap.size + 1 + 1 + 1 + 1 ≠ w.heap.size + 1 + 1 + 1 by omega) _) _ _ _ _
      obtain ⟨hX, hR, hB⟩ : Blk wf (w.heap.size + 1 + 1 + 1) 26 #[.int .i64 nx, .slice (some ⟨gy, 0, none⟩) xs.length cy] /\ Blk wf (w.heap.size + 1 + 1 + 1 + 1) 54 #[.int .i64 0, .int .i64 0, .string ⟨#[]⟩, .string ⟨#[]⟩] /\ Below w.heap.size w wf := by
       rw [hwf]
       first
        | exact two_putL _ _ _ _ _ _ kX17 kR17 (by omega) B17 (by omega) (by omega)
        | exact two_putL _ _ _ _ _ _ kX17.drew kR17.drew (by omega) B17.drew (by omega) (by omega)
      clear hwf x_0 x_1 r_0 r_1 r_2 r_3
      obtain ⟨x_0, x_1⟩ := hX.g2
      obtain ⟨r_0, r_1, r_2, r_3⟩ := hR.g4
      have hun := QV.respell Hq.out hk2 hi2 Hf2.out
      simp only [HE2.out, Hdd.out, HPR.out] at hun
      rw [Hx1.out] at hun
      refine bodyPost_ret (v := .tuple #[.agg #[.int .i64 nx, .slice (some ⟨gy, 0, none⟩) xs.length cy], .agg #[.int .i64 0, .int .i64 0, .string ⟨#[]⟩, .string ⟨#[]⟩]]) (by simp [results, Tryz.results223, go_sem, x_0, x_1, r_0, r_1, r_2, r_3]) rfl ⟨⟨_, ⟨nx, x1⟩, _, rfl, ⟨_, _, _, _, rfl⟩, hun.mono (by omega), .inr ⟨gy, cy, u1, by rw [Hl1.out], YF.more (by omega)⟩⟩, hB⟩
   ·have t68 : (ed2 == xid) = false := by simpa using hdd
    have Hdd := Lib.hid hdd
    clear hdd
    obtain ⟨oj, hoj, hpoj, hoij, hno1⟩ := Hq.out.found (List.getElem_mem hk2) (List.getElem_mem hi2)
    simp only [HE2.out] at hpoj hoij hno1
    go_upto_region 19 with fail
    have HAt2 := Lib.hid (fun W hW => Hat.out ed2 W hW)
    simp only [hpoj] at HAt2
    obtain ⟨_, b', of', Ao, co, heq, _, z0, z1, z2, z3, z4, _⟩ := (Hva.out.below B9).at_ hoj
    simp only [Option.some.injEq, Addr.mk.injEq, and_true] at heq
    obtain ⟨rfl, rfl⟩ := heq
    obtain ⟨x, hx⟩ : ∃ x, xs[oj] = x := ⟨_, rfl⟩
    have HXo := Lib.hid hx
    rw [hx] at z0 z1 z2 z3 z4 hoij
    clear hx
    obtain ⟨oid, okd, oln, os_, oes⟩ := x
    simp only at z0 z1 z2 z3 z4 hoij
    obtain ⟨mo, hmo⟩ : ∃ q, oes.length = q := ⟨_, rfl⟩
    have Hmo := Lib.hid hmo
    rw [hmo] at z4
    clear hmo
    have j0 : (0 : Int) <= (oj : Int) := by omega
    have j1 : (oj : Int) < ((xs.length : Nat) : Int) := by omega
    have HJ := Lib.hid (And.intro hpoj (And.intro hoij hno1))
    clear hpoj hoij hno1
    have za := hz4.out
    have zb := he3.out
    obtain ⟨g0, hg0⟩ : ∃ g0, g0 = w9.heap.size := ⟨_, rfl⟩
    have hle : w.heap.size + 5 <= w9.heap.size /\ py < w9.heap.size := ⟨by have := kR9.lt; omega, kY9.lt⟩
    refine wp_region_held_drew (S := fun w' => w'.cell? ⟨w.heap.size, 0, none⟩ = some (.int .i64 nx) /\ w'.cell? ⟨w.heap.size, 1, none⟩ = some (.slice (some ⟨b, of_, none⟩) xs.length c) /\ w'.cell? ⟨w.heap.size + 1, 3, none⟩ = some (.int .i64 tg) /\ World.cell? w' ⟨b, of_ + oj * 5, none⟩ = some (.int .i64 oid) /\ World.cell? w' ⟨b, of_ + oj * 5 + 1, none⟩ = some (.int .i64 okd) /\ World.cell? w' ⟨b, of_ + oj * 5 + 2, none⟩ = some (.int .i64 oln) /\ World.cell? w' ⟨b, of_ + oj * 5 + 3, none⟩ = some (.string os_) /\ World.cell? w' ⟨b, of_ + oj * 5 + 4, none⟩ = some (.slice Ao mo co) /\ World.cell? w' ⟨b, of_ + k2 * 5 + 4, none⟩ = some (.slice (some ⟨b9, o9, none⟩) m2 c9) /\ World.cell? w' ⟨b9, o9 + i2 * 4 + 3, none⟩ = some (.int .i64 ed2)) (by kernel_rfl) (by exact ⟨kV9.get 0 rfl, kV9.get 1 rfl, kC9.get 3 rfl, z0, z1, z2, z3, z4, za, zb⟩) (fun hHeld => ?_)
    clear hHeld
    refine foldH ?_
    intro r hr0
    have bw : w9.grownBy r (some g0) := by rw [hr0]; exact gb_below (grown_refl _ _) (bel0 w9).drew
    have kV : Blk r w.heap.size 26 #[.int .i64 nx, .slice (some ⟨b, of_, none⟩) xs.length c] := by rw [hr0]; exact kV9.drew
    have kC : Blk r (w.heap.size + 1) 95 #[.int .i64 kd, .int .i64 a, .string s, .int .i64 tg, .string nm, .string dt] := by rw [hr0]; exact kC9.drew
    have kI : Blk r (w.heap.size + 1 + 1) 36 #[.int .i64 xid, .int .i64 xkd, .int .i64 xln, .string xs_, .slice Ax mx cx] := by rw [hr0]; exact kI9.drew
    have kX : Blk r (w.heap.size + 1 + 1 + 1) 26 #[.int .i64 0, .slice none 0 0] := by rw [hr0]; exact kX9.drew
    have kR : Blk r (w.heap.size + 1 + 1 + 1 + 1) 54 #[.int .i64 0, .int .i64 0, .string ⟨#[]⟩, .string ⟨#[]⟩] := by rw [hr0]; exact kR9.drew
    have kY : Blk r py 26 #[.int .i64 nx, .slice (some ⟨gy, 0, none⟩) xs.length cy] := by rw [hr0]; exact kY9.drew
    have pZ : (World.cell? r ⟨b, of_ + oj * 5, none⟩ = some (.int .i64 oid) /\ World.cell? r ⟨b, of_ + oj * 5 + 1, none⟩ = some (.int .i64 okd) /\ World.cell? r ⟨b, of_ + oj * 5 + 2, none⟩ = some (.int .i64 oln) /\ World.cell? r ⟨b, of_ + oj * 5 + 3, none⟩ = some (.string os_) /\ World.cell? r ⟨b, of_ + oj * 5 + 4, none⟩ = some (.slice Ao mo co) /\ World.cell? r ⟨b, of_ + k2 * 5 + 4, none⟩ = some (.slice (some ⟨b9, o9, none⟩) m2 c9) /\ World.cell? r ⟨b9, o9 + i2 * 4 + 3, none⟩ = some (.int .i64 ed2)) := by rw [hr0]; exact ⟨keep1 (bel0 w9).drew z0, keep1 (bel0 w9).drew z1, keep1 (bel0 w9).drew z2, keep1 (bel0 w9).drew z3, keep1 (bel0 w9).drew z4, keep1 (bel0 w9).drew za, keep1 (bel0 w9).drew zb⟩
    clear hr0
    apply mem4r_nw (P := fun aO q => w9.grownBy q (some g0) /\ Blk q (w.heap.size + 1) 95 #[.int .i64 kd, .int .i64 a, .string s, .int .i64 tg, .string nm, .string dt] /\ Blk q (w.heap.size + 1 + 1) 36 #[.int .i64 xid, .int .i64 xkd, .int .i64 xln, .string xs_, .slice Ax mx cx] /\ Blk q aO 36 #[.int .i64 0, .int .i64 0, .int .i64 0, .string ⟨#[]⟩, .slice none 0 0] /\ Blk q (w.heap.size + 1 + 1 + 1 + 1) 54 #[.int .i64 0, .int .i64 0, .string ⟨#[]⟩, .string ⟨#[]⟩] /\ Blk q w.heap.size 26 #[.int .i64 nx, .slice (some ⟨b, of_, none⟩) xs.length c] /\ Blk q (w.heap.size + 1 + 1 + 1) 26 #[.int .i64 0, .slice none 0 0] /\ Blk q py 26 #[.int .i64 nx, .slice (some ⟨gy, 0, none⟩) xs.length cy] /\ (World.cell? q ⟨b, of_ + oj * 5, none⟩ = some (.int .i64 oid) /\ World.cell? q ⟨b, of_ + oj * 5 + 1, none⟩ = some (.int .i64 okd) /\ World.cell? q ⟨b, of_ + oj * 5 + 2, none⟩ = some (.int .i64 oln) /\ World.cell? q ⟨b, of_ + oj * 5 + 3, none⟩ = some (.string os_) /\ World.cell? q ⟨b, of_ + oj * 5 + 4, none⟩ = some (.slice Ao mo co) /\ World.cell? q ⟨b, of_ + k2 * 5 + 4, none⟩ = some (.slice (some ⟨b9, o9, none⟩) m2 c9) /\ World.cell? q ⟨b9, o9 + i2 * 4 + 3, none⟩ = some (.int .i64 ed2)) /\ w9.heap.size <= aO)
    case use =>
     intro key_rf_6_11_14
     apply mem4r_nw (P := fun aO q => w9.grownBy q (some g0) /\ Blk q (w.heap.size + 1) 95 #[.int .i64 kd, .int .i64 a, .string s, .int .i64 tg, .string nm, .string dt] /\ Blk q (w.heap.size + 1 + 1) 36 #[.int .i64 xid, .int .i64 xkd, .int .i64 xln, .string xs_, .slice Ax mx cx] /\ Blk q aO 36 #[.int .i64 0, .int .i64 0, .int .i64 0, .string ⟨#[]⟩, .slice none 0 0] /\ Blk q (w.heap.size + 1 + 1 + 1 + 1) 54 #[.int .i64 0, .int .i64 0, .string ⟨#[]⟩, .string ⟨#[]⟩] /\ Blk q w.heap.size 26 #[.int .i64 nx, .slice (some ⟨b, of_, none⟩) xs.length c] /\ Blk q (w.heap.size + 1 + 1 + 1) 26 #[.int .i64 0, .slice none 0 0] /\ Blk q py 26 #[.int .i64 nx, .slice (some ⟨gy, 0, none⟩) xs.length cy] /\ (World.cell? q ⟨b, of_ + oj * 5, none⟩ = some (.int .i64 oid) /\ World.cell? q ⟨b, of_ + oj * 5 + 1, none⟩ = some (.int .i64 okd) /\ World.cell? q ⟨b, of_ + oj * 5 + 2, none⟩ = some (.int .i64 oln) /\ World.cell? q ⟨b, of_ + oj * 5 + 3, none⟩ = some (.string os_) /\ World.cell? q ⟨b, of_ + oj * 5 + 4, none⟩ = some (.slice Ao mo co) /\ World.cell? q ⟨b, of_ + k2 * 5 + 4, none⟩ = some (.slice (some ⟨b9, o9, none⟩) m2 c9) /\ World.cell? q ⟨b9, o9 + i2 * 4 + 3, none⟩ = some (.int .i64 ed2)) /\ w9.heap.size <= aO)
     case use =>
      intro key_rf_6_14
      apply mem4r_w (P := fun  q => w9.grownBy q (some g0) /\ Blk q (w.heap.size + 1) 95 #[.int .i64 kd, .int .i64 a, .string s, .int .i64 tg, .string nm, .string dt] /\ Blk q (w.heap.size + 1 + 1) 36 #[.int .i64 xid, .int .i64 xkd, .int .i64 xln, .string xs_, .slice Ax mx cx] /\ Blk q (w.heap.size + 1 + 1 + 1 + 1) 54 #[.int .i64 0, .int .i64 0, .string ⟨#[]⟩, .string ⟨#[]⟩] /\ Blk q w.heap.size 26 #[.int .i64 nx, .slice (some ⟨b, of_, none⟩) xs.length c] /\ Blk q (w.heap.size + 1 + 1 + 1) 26 #[.int .i64 0, .slice none 0 0] /\ Blk q py 26 #[.int .i64 nx, .slice (some ⟨gy, 0, none⟩) xs.length cy] /\ (World.cell? q ⟨b, of_ + oj * 5, none⟩ = some (.int .i64 oid) /\ World.cell? q ⟨b, of_ + oj * 5 + 1, none⟩ = some (.int .i64 okd) /\ World.cell? q ⟨b, of_ + oj * 5 + 2, none⟩ = some (.int .i64 oln) /\ World.cell? q ⟨b, of_ + oj * 5 + 3, none⟩ = some (.string os_) /\ World.cell? q ⟨b, of_ + oj * 5 + 4, none⟩ = some (.slice Ao mo co) /\ World.cell? q ⟨b, of_ + k2 * 5 + 4, none⟩ = some (.slice (some ⟨b9, o9, none⟩) m2 c9) /\ World.cell? q ⟨b9, o9 + i2 * 4 + 3, none⟩ = some (.int .i64 ed2)))
      case use =>
       intro key_rf_6_11
       apply mem4r_nw (P := fun aO q => w9.grownBy q (some g0) /\ Blk q (w.heap.size + 1) 95 #[.int .i64 kd, .int .i64 a, .string s, .int .i64 tg, .string nm, .string dt] /\ Blk q (w.heap.size + 1 + 1) 36 #[.int .i64 xid, .int .i64 xkd, .int .i64 xln, .string xs_, .slice Ax mx cx] /\ Blk q aO 36 #[.int .i64 0, .int .i64 0, .int .i64 0, .string ⟨#[]⟩, .slice none 0 0] /\ Blk q (w.heap.size + 1 + 1 + 1 + 1) 54 #[.int .i64 0, .int .i64 0, .string ⟨#[]⟩, .string ⟨#[]⟩] /\ Blk q w.heap.size 26 #[.int .i64 nx, .slice (some ⟨b, of_, none⟩) xs.length c] /\ Blk q (w.heap.size + 1 + 1 + 1) 26 #[.int .i64 0, .slice none 0 0] /\ Blk q py 26 #[.int .i64 nx, .slice (some ⟨gy, 0, none⟩) xs.length cy] /\ (World.cell? q ⟨b, of_ + oj * 5, none⟩ = some (.int .i64 oid) /\ World.cell? q ⟨b, of_ + oj * 5 + 1, none⟩ = some (.int .i64 okd) /\ World.cell? q ⟨b, of_ + oj * 5 + 2, none⟩ = some (.int .i64 oln) /\ World.cell? q ⟨b, of_ + oj * 5 + 3, none⟩ = some (.string os_) /\ World.cell? q ⟨b, of_ + oj * 5 + 4, none⟩ = some (.slice Ao mo co) /\ World.cell? q ⟨b, of_ + k2 * 5 + 4, none⟩ = some (.slice (some ⟨b9, o9, none⟩) m2 c9) /\ World.cell? q ⟨b9, o9 + i2 * 4 + 3, none⟩ = some (.int .i64 ed2)) /\ w9.heap.size <= aO)
       case use =>
        intro key_rf_14
        apply mem4r_w (P := fun  q => w9.grownBy q (some g0) /\ Blk q (w.heap.size + 1) 95 #[.int .i64 kd, .int .i64 a, .string s, .int .i64 tg, .string nm, .string dt] /\ Blk q (w.heap.size + 1 + 1) 36 #[.int .i64 xid, .int .i64 xkd, .int .i64 xln, .string xs_, .slice Ax mx cx] /\ Blk q (w.heap.size + 1 + 1 + 1 + 1) 54 #[.int .i64 0, .int .i64 0, .string ⟨#[]⟩, .string ⟨#[]⟩] /\ Blk q w.heap.size 26 #[.int .i64 nx, .slice (some ⟨b, of_, none⟩) xs.length c] /\ Blk q (w.heap.size + 1 + 1 + 1) 26 #[.int .i64 0, .slice none 0 0] /\ Blk q py 26 #[.int .i64 nx, .slice (some ⟨gy, 0, none⟩) xs.length cy] /\ (World.cell? q ⟨b, of_ + oj * 5, none⟩ = some (.int .i64 oid) /\ World.cell? q ⟨b, of_ + oj * 5 + 1, none⟩ = some (.int .i64 okd) /\ World.cell? q ⟨b, of_ + oj * 5 + 2, none⟩ = some (.int .i64 oln) /\ World.cell? q ⟨b, of_ + oj * 5 + 3, none⟩ = some (.string os_) /\ World.cell? q ⟨b, of_ + oj * 5 + 4, none⟩ = some (.slice Ao mo co) /\ World.cell? q ⟨b, of_ + k2 * 5 + 4, none⟩ = some (.slice (some ⟨b9, o9, none⟩) m2 c9) /\ World.cell? q ⟨b9, o9 + i2 * 4 + 3, none⟩ = some (.int .i64 ed2)))
        case use =>
         intro key_rf_6
         refine tkW_ 0 ?_ (hS := by exact ⟨kV.get 0 rfl, kV.get 1 rfl, kC.get 3 rfl, pZ.1, pZ.2.1, pZ.2.2.1, pZ.2.2.2.1, pZ.2.2.2.2.1, pZ.2.2.2.2.2.1, pZ.2.2.2.2.2.2⟩)
         refine tkW_ 1 ?_ (hS := by exact ⟨kV.get 0 rfl, kV.get 1 rfl, kC.get 3 rfl, pZ.1, pZ.2.1, pZ.2.2.1, pZ.2.2.2.1, pZ.2.2.2.2.1, pZ.2.2.2.2.2.1, pZ.2.2.2.2.2.2⟩)
         refine tkW_ 2 ?_ (hS := by exact ⟨kV.get 0 rfl, kV.get 1 rfl, kC.get 3 rfl, pZ.1, pZ.2.1, pZ.2.2.1, pZ.2.2.2.1, pZ.2.2.2.2.1, pZ.2.2.2.2.2.1, pZ.2.2.2.2.2.2⟩)
         refine tkW_ 3 ?_ (hS := by exact ⟨kV.get 0 rfl, kV.get 1 rfl, kC.get 3 rfl, pZ.1, pZ.2.1, pZ.2.2.1, pZ.2.2.2.1, pZ.2.2.2.2.1, pZ.2.2.2.2.2.1, pZ.2.2.2.2.2.2⟩)
         refine tkW_ 4 ?_ (hS := by exact ⟨kV.get 0 rfl, kV.get 1 rfl, kC.get 3 rfl, pZ.1, pZ.2.1, pZ.2.2.1, pZ.2.2.2.1, pZ.2.2.2.2.1, pZ.2.2.2.2.2.1, pZ.2.2.2.2.2.2⟩)
         refine tkW_ 5 ?_ (hS := by exact ⟨kV.get 0 rfl, kV.get 1 rfl, kC.get 3 rfl, pZ.1, pZ.2.1, pZ.2.2.1, pZ.2.2.2.1, pZ.2.2.2.2.1, pZ.2.2.2.2.2.1, pZ.2.2.2.2.2.2⟩)
         refine tkW_ 7 ?_ (hS := by exact ⟨kV.get 0 rfl, kV.get 1 rfl, kC.get 3 rfl, pZ.1, pZ.2.1, pZ.2.2.1, pZ.2.2.2.1, pZ.2.2.2.2.1, pZ.2.2.2.2.2.1, pZ.2.2.2.2.2.2⟩)
         refine rd2_ 6 14 (fun K hK => ?br5008) (fun K hK => ?br5009)
         case br5008 =>
          go_simp
          go_at_call 220
          refine (Hent9.out _ (hvv.out.next (belG B9 bw (by omega))) pZ.2.2.2.2.2.1).mono ?_
          rintro e q ⟨rfl, hb⟩
          have bw2 := gb_below bw hb
          have kV2 := kV.below hb kV.lt
          have kC2 := kC.below hb kC.lt
          have kI2 := kI.below hb kI.lt
          have kX2 := kX.below hb kX.lt
          have kR2 := kR.below hb kR.lt
          have kY2 := kY.below hb kY.lt
          have pZ2 : (World.cell? q ⟨b, of_ + oj * 5, none⟩ = some (.int .i64 oid) /\ World.cell? q ⟨b, of_ + oj * 5 + 1, none⟩ = some (.int .i64 okd) /\ World.cell? q ⟨b, of_ + oj * 5 + 2, none⟩ = some (.int .i64 oln) /\ World.cell? q ⟨b, of_ + oj * 5 + 3, none⟩ = some (.string os_) /\ World.cell? q ⟨b, of_ + oj * 5 + 4, none⟩ = some (.slice Ao mo co) /\ World.cell? q ⟨b, of_ + k2 * 5 + 4, none⟩ = some (.slice (some ⟨b9, o9, none⟩) m2 c9) /\ World.cell? q ⟨b9, o9 + i2 * 4 + 3, none⟩ = some (.int .i64 ed2)) := ⟨keep1 hb pZ.1, keep1 hb pZ.2.1, keep1 hb pZ.2.2.1, keep1 hb pZ.2.2.2.1, keep1 hb pZ.2.2.2.2.1, keep1 hb pZ.2.2.2.2.2.1, keep1 hb pZ.2.2.2.2.2.2⟩
          refine hK.out _ _ (by exact ⟨kV2.get 0 rfl, kV2.get 1 rfl, kC2.get 3 rfl, pZ2.1, pZ2.2.1, pZ2.2.2.1, pZ2.2.2.2.1, pZ2.2.2.2.2.1, pZ2.2.2.2.2.2.1, pZ2.2.2.2.2.2.2⟩) (fun _ => ?_)
          clear hK K
          try simp only [Act.put, pT_, pZ_, pS_]
          refine tkW_ 8 ?_ (hS := by exact ⟨kV2.get 0 rfl, kV2.get 1 rfl, kC2.get 3 rfl, pZ2.1, pZ2.2.1, pZ2.2.2.1, pZ2.2.2.2.1, pZ2.2.2.2.2.1, pZ2.2.2.2.2.2.1, pZ2.2.2.2.2.2.2⟩)
          refine tkW_ 9 ?_ (hS := by exact ⟨kV2.get 0 rfl, kV2.get 1 rfl, kC2.get 3 rfl, pZ2.1, pZ2.2.1, pZ2.2.2.1, pZ2.2.2.2.1, pZ2.2.2.2.2.1, pZ2.2.2.2.2.2.1, pZ2.2.2.2.2.2.2⟩)
          refine tkW_ 10 ?_ (hS := by exact ⟨kV2.get 0 rfl, kV2.get 1 rfl, kC2.get 3 rfl, pZ2.1, pZ2.2.1, pZ2.2.2.1, pZ2.2.2.2.1, pZ2.2.2.2.2.1, pZ2.2.2.2.2.2.1, pZ2.2.2.2.2.2.2⟩)
          exact key_rf_6  q ⟨bw2, kC2, kI2, kR2, kV2, kX2, kY2, pZ2⟩
         case br5009 =>
          go_simp
          refine hK.out _ _ (by exact ⟨(kV.alloc _).get 0 rfl, (kV.alloc _).get 1 rfl, (kC.alloc _).get 3 rfl, keep1 (belA (bel0 _) _) pZ.1, keep1 (belA (bel0 _) _) pZ.2.1, keep1 (belA (bel0 _) _) pZ.2.2.1, keep1 (belA (bel0 _) _) pZ.2.2.2.1, keep1 (belA (bel0 _) _) pZ.2.2.2.2.1, keep1 (belA (bel0 _) _) pZ.2.2.2.2.2.1, keep1 (belA (bel0 _) _) pZ.2.2.2.2.2.2⟩) (fun _ => ?_)
          clear hK K
          try simp only [Act.put, pT_, pZ_, pS_]
          refine foldH ?_
          intro q hq
          obtain ⟨aO, ha⟩ : ∃ g, r.heap.size = g := ⟨_, rfl⟩
          rw [ha]
          have bw2 : w9.grownBy q (some g0) := by rw [hq]; exact gb_below bw (belA (bel0 r) (.cells #[.int .i64 0, .int .i64 0, .int .i64 0, .string ⟨#[]⟩, .slice none 0 0] 36))
          have kV2 : Blk q _ _ _ := hq ▸ kV.alloc (.cells #[.int .i64 0, .int .i64 0, .int .i64 0, .string ⟨#[]⟩, .slice none 0 0] 36)
          have kC2 : Blk q _ _ _ := hq ▸ kC.alloc (.cells #[.int .i64 0, .int .i64 0, .int .i64 0, .string ⟨#[]⟩, .slice none 0 0] 36)
          have kI2 : Blk q _ _ _ := hq ▸ kI.alloc (.cells #[.int .i64 0, .int .i64 0, .int .i64 0, .string ⟨#[]⟩, .slice none 0 0] 36)
          have kX2 : Blk q _ _ _ := hq ▸ kX.alloc (.cells #[.int .i64 0, .int .i64 0, .int .i64 0, .string ⟨#[]⟩, .slice none 0 0] 36)
          have kR2 : Blk q _ _ _ := hq ▸ kR.alloc (.cells #[.int .i64 0, .int .i64 0, .int .i64 0, .string ⟨#[]⟩, .slice none 0 0] 36)
          have kY2 : Blk q _ _ _ := hq ▸ kY.alloc (.cells #[.int .i64 0, .int .i64 0, .int .i64 0, .string ⟨#[]⟩, .slice none 0 0] 36)
          have pZ2 : (World.cell? q ⟨b, of_ + oj * 5, none⟩ = some (.int .i64 oid) /\ World.cell? q ⟨b, of_ + oj * 5 + 1, none⟩ = some (.int .i64 okd) /\ World.cell? q ⟨b, of_ + oj * 5 + 2, none⟩ = some (.int .i64 oln) /\ World.cell? q ⟨b, of_ + oj * 5 + 3, none⟩ = some (.string os_) /\ World.cell? q ⟨b, of_ + oj * 5 + 4, none⟩ = some (.slice Ao mo co) /\ World.cell? q ⟨b, of_ + k2 * 5 + 4, none⟩ = some (.slice (some ⟨b9, o9, none⟩) m2 c9) /\ World.cell? q ⟨b9, o9 + i2 * 4 + 3, none⟩ = some (.int .i64 ed2)) := by rw [hq]; exact ⟨keep1 (belA (bel0 _) _) pZ.1, keep1 (belA (bel0 _) _) pZ.2.1, keep1 (belA (bel0 _) _) pZ.2.2.1, keep1 (belA (bel0 _) _) pZ.2.2.2.1, keep1 (belA (bel0 _) _) pZ.2.2.2.2.1, keep1 (belA (bel0 _) _) pZ.2.2.2.2.2.1, keep1 (belA (bel0 _) _) pZ.2.2.2.2.2.2⟩
          have kO2 : Blk q aO 36 #[.int .i64 0, .int .i64 0, .int .i64 0, .string ⟨#[]⟩, .slice none 0 0] := by rw [hq, <- ha]; exact Blk.new' _ _ _ _ rfl
          have laO : w9.heap.size <= aO := by rw [<- ha]; exact bw.size
          exact key_rf_14 aO q ⟨bw2, kC2, kI2, kO2, kR2, kV2, kX2, kY2, pZ2, laO⟩
        case key =>
         rintro  r ⟨bw, kC, kI, kR, kV, kX, kY, pZ⟩
         try dsimp only
         refine rd2_ 11 14 (fun K hK => ?br5013) (fun K hK => ?br5014)
         case br5013 =>
          go_simp
          go_at_call 54
          refine (HAt2.out _ (hvv.out.next (belG B9 bw (by omega))).is).mono ?_
          rintro e q ⟨rfl, hb⟩
          have bw2 := gb_below bw hb
          have kV2 := kV.below hb kV.lt
          have kC2 := kC.below hb kC.lt
          have kI2 := kI.below hb kI.lt
          have kX2 := kX.below hb kX.lt
          have kR2 := kR.below hb kR.lt
          have kY2 := kY.below hb kY.lt
          have pZ2 : (World.cell? q ⟨b, of_ + oj * 5, none⟩ = some (.int .i64 oid) /\ World.cell? q ⟨b, of_ + oj * 5 + 1, none⟩ = some (.int .i64 okd) /\ World.cell? q ⟨b, of_ + oj * 5 + 2, none⟩ = some (.int .i64 oln) /\ World.cell? q ⟨b, of_ + oj * 5 + 3, none⟩ = some (.string os_) /\ World.cell? q ⟨b, of_ + oj * 5 + 4, none⟩ = some (.slice Ao mo co) /\ World.cell? q ⟨b, of_ + k2 * 5 + 4, none⟩ = some (.slice (some ⟨b9, o9, none⟩) m2 c9) /\ World.cell? q ⟨b9, o9 + i2 * 4 + 3, none⟩ = some (.int .i64 ed2)) := ⟨keep1 hb pZ.1, keep1 hb pZ.2.1, keep1 hb pZ.2.2.1, keep1 hb pZ.2.2.2.1, keep1 hb pZ.2.2.2.2.1, keep1 hb pZ.2.2.2.2.2.1, keep1 hb pZ.2.2.2.2.2.2⟩
          refine hK.out _ _ (by exact ⟨kV2.get 0 rfl, kV2.get 1 rfl, kC2.get 3 rfl, pZ2.1, pZ2.2.1, pZ2.2.2.1, pZ2.2.2.2.1, pZ2.2.2.2.2.1, pZ2.2.2.2.2.2.1, pZ2.2.2.2.2.2.2⟩) (fun _ => ?_)
          clear hK K
          try simp only [Act.put, pT_, pZ_, pS_]
          refine tkW_ 12 ?_ (hS := by exact ⟨kV2.get 0 rfl, kV2.get 1 rfl, kC2.get 3 rfl, pZ2.1, pZ2.2.1, pZ2.2.2.1, pZ2.2.2.2.1, pZ2.2.2.2.2.1, pZ2.2.2.2.2.2.1, pZ2.2.2.2.2.2.2⟩)
          refine tkW_ 13 ?_ (hS := by exact ⟨kV2.get 0 rfl, kV2.get 1 rfl, kC2.get 3 rfl, pZ2.1, pZ2.2.1, pZ2.2.2.1, pZ2.2.2.2.1, pZ2.2.2.2.2.1, pZ2.2.2.2.2.2.1, pZ2.2.2.2.2.2.2⟩)
          exact key_rf_6_11  q ⟨bw2, kC2, kI2, kR2, kV2, kX2, kY2, pZ2⟩
         case br5014 =>
          go_simp
          refine hK.out _ _ (by exact ⟨(kV.alloc _).get 0 rfl, (kV.alloc _).get 1 rfl, (kC.alloc _).get 3 rfl, keep1 (belA (bel0 _) _) pZ.1, keep1 (belA (bel0 _) _) pZ.2.1, keep1 (belA (bel0 _) _) pZ.2.2.1, keep1 (belA (bel0 _) _) pZ.2.2.2.1, keep1 (belA (bel0 _) _) pZ.2.2.2.2.1, keep1 (belA (bel0 _) _) pZ.2.2.2.2.2.1, keep1 (belA (bel0 _) _) pZ.2.2.2.2.2.2⟩) (fun _ => ?_)
          clear hK K
          try simp only [Act.put, pT_, pZ_, pS_]
          refine foldH ?_
          intro q hq
          obtain ⟨aO, ha⟩ : ∃ g, r.heap.size = g := ⟨_, rfl⟩
          rw [ha]
          have bw2 : w9.grownBy q (some g0) := by rw [hq]; exact gb_below bw (belA (bel0 r) (.cells #[.int .i64 0, .int .i64 0, .int .i64 0, .string ⟨#[]⟩, .slice none 0 0] 36))
          have kV2 : Blk q _ _ _ := hq ▸ kV.alloc (.cells #[.int .i64 0, .int .i64 0, .int .i64 0, .string ⟨#[]⟩, .slice none 0 0] 36)
          have kC2 : Blk q _ _ _ := hq ▸ kC.alloc (.cells #[.int .i64 0, .int .i64 0, .int .i64 0, .string ⟨#[]⟩, .slice none 0 0] 36)
          have kI2 : Blk q _ _ _ := hq ▸ kI.alloc (.cells #[.int .i64 0, .int .i64 0, .int .i64 0, .string ⟨#[]⟩, .slice none 0 0] 36)
          have kX2 : Blk q _ _ _ := hq ▸ kX.alloc (.cells #[.int .i64 0, .int .i64 0, .int .i64 0, .string ⟨#[]⟩, .slice none 0 0] 36)
          have kR2 : Blk q _ _ _ := hq ▸ kR.alloc (.cells #[.int .i64 0, .int .i64 0, .int .i64 0, .string ⟨#[]⟩, .slice none 0 0] 36)
          have kY2 : Blk q _ _ _ := hq ▸ kY.alloc (.cells #[.int .i64 0, .int .i64 0, .int .i64 0, .string ⟨#[]⟩, .slice none 0 0] 36)
          have pZ2 : (World.cell? q ⟨b, of_ + oj * 5, none⟩ = some (.int .i64 oid) /\ World.cell? q ⟨b, of_ + oj * 5 + 1, none⟩ = some (.int .i64 okd) /\ World.cell? q ⟨b, of_ + oj * 5 + 2, none⟩ = some (.int .i64 oln) /\ World.cell? q ⟨b, of_ + oj * 5 + 3, none⟩ = some (.string os_) /\ World.cell? q ⟨b, of_ + oj * 5 + 4, none⟩ = some (.slice Ao mo co) /\ World.cell? q ⟨b, of_ + k2 * 5 + 4, none⟩ = some (.slice (some ⟨b9, o9, none⟩) m2 c9) /\ World.cell? q ⟨b9, o9 + i2 * 4 + 3, none⟩ = some (.int .i64 ed2)) := by rw [hq]; exact ⟨keep1 (belA (bel0 _) _) pZ.1, keep1 (belA (bel0 _) _) pZ.2.1, keep1 (belA (bel0 _) _) pZ.2.2.1, keep1 (belA (bel0 _) _) pZ.2.2.2.1, keep1 (belA (bel0 _) _) pZ.2.2.2.2.1, keep1 (belA (bel0 _) _) pZ.2.2.2.2.2.1, keep1 (belA (bel0 _) _) pZ.2.2.2.2.2.2⟩
          have kO2 : Blk q aO 36 #[.int .i64 0, .int .i64 0, .int .i64 0, .string ⟨#[]⟩, .slice none 0 0] := by rw [hq, <- ha]; exact Blk.new' _ _ _ _ rfl
          have laO : w9.heap.size <= aO := by rw [<- ha]; exact bw.size
          exact key_rf_6_14 aO q ⟨bw2, kC2, kI2, kO2, kR2, kV2, kX2, kY2, pZ2, laO⟩
       case key =>
        rintro aO r ⟨bw, kC, kI, kO, kR, kV, kX, kY, pZ, laO⟩
        try dsimp only
        refine rd1_ 6 (fun K hK => ?br5017)
        case br5017 =>
         go_simp
         go_at_call 220
         refine (Hent9.out _ (hvv.out.next (belG B9 bw (by omega))) pZ.2.2.2.2.2.1).mono ?_
         rintro e q ⟨rfl, hb⟩
         have bw2 := gb_below bw hb
         have kV2 := kV.below hb kV.lt
         have kC2 := kC.below hb kC.lt
         have kI2 := kI.below hb kI.lt
         have kX2 := kX.below hb kX.lt
         have kR2 := kR.below hb kR.lt
         have kY2 := kY.below hb kY.lt
         have kO2 := kO.below hb kO.lt
         have pZ2 : (World.cell? q ⟨b, of_ + oj * 5, none⟩ = some (.int .i64 oid) /\ World.cell? q ⟨b, of_ + oj * 5 + 1, none⟩ = some (.int .i64 okd) /\ World.cell? q ⟨b, of_ + oj * 5 + 2, none⟩ = some (.int .i64 oln) /\ World.cell? q ⟨b, of_ + oj * 5 + 3, none⟩ = some (.string os_) /\ World.cell? q ⟨b, of_ + oj * 5 + 4, none⟩ = some (.slice Ao mo co) /\ World.cell? q ⟨b, of_ + k2 * 5 + 4, none⟩ = some (.slice (some ⟨b9, o9, none⟩) m2 c9) /\ World.cell? q ⟨b9, o9 + i2 * 4 + 3, none⟩ = some (.int .i64 ed2)) := ⟨keep1 hb pZ.1, keep1 hb pZ.2.1, keep1 hb pZ.2.2.1, keep1 hb pZ.2.2.2.1, keep1 hb pZ.2.2.2.2.1, keep1 hb pZ.2.2.2.2.2.1, keep1 hb pZ.2.2.2.2.2.2⟩
         refine hK.out _ _ (by exact ⟨kV2.get 0 rfl, kV2.get 1 rfl, kC2.get 3 rfl, pZ2.1, pZ2.2.1, pZ2.2.2.1, pZ2.2.2.2.1, pZ2.2.2.2.2.1, pZ2.2.2.2.2.2.1, pZ2.2.2.2.2.2.2⟩) (fun _ => ?_)
         clear hK K
         try simp only [Act.put, pT_, pZ_, pS_]
         refine tkW_ 8 ?_ (hS := by exact ⟨kV2.get 0 rfl, kV2.get 1 rfl, kC2.get 3 rfl, pZ2.1, pZ2.2.1, pZ2.2.2.1, pZ2.2.2.2.1, pZ2.2.2.2.2.1, pZ2.2.2.2.2.2.1, pZ2.2.2.2.2.2.2⟩)
         refine tkW_ 9 ?_ (hS := by exact ⟨kV2.get 0 rfl, kV2.get 1 rfl, kC2.get 3 rfl, pZ2.1, pZ2.2.1, pZ2.2.2.1, pZ2.2.2.2.1, pZ2.2.2.2.2.1, pZ2.2.2.2.2.2.1, pZ2.2.2.2.2.2.2⟩)
         refine tkW_ 10 ?_ (hS := by exact ⟨kV2.get 0 rfl, kV2.get 1 rfl, kC2.get 3 rfl, pZ2.1, pZ2.2.1, pZ2.2.2.1, pZ2.2.2.2.1, pZ2.2.2.2.2.1, pZ2.2.2.2.2.2.1, pZ2.2.2.2.2.2.2⟩)
         exact key_rf_6_14 aO q ⟨bw2, kC2, kI2, kO2, kR2, kV2, kX2, kY2, pZ2, laO⟩
      case key =>
       rintro  r ⟨bw, kC, kI, kR, kV, kX, kY, pZ⟩
       try dsimp only
       refine rd1_ 14 (fun K hK => ?br5021)
       case br5021 =>
        go_simp
        refine hK.out _ _ (by exact ⟨(kV.alloc _).get 0 rfl, (kV.alloc _).get 1 rfl, (kC.alloc _).get 3 rfl, keep1 (belA (bel0 _) _) pZ.1, keep1 (belA (bel0 _) _) pZ.2.1, keep1 (belA (bel0 _) _) pZ.2.2.1, keep1 (belA (bel0 _) _) pZ.2.2.2.1, keep1 (belA (bel0 _) _) pZ.2.2.2.2.1, keep1 (belA (bel0 _) _) pZ.2.2.2.2.2.1, keep1 (belA (bel0 _) _) pZ.2.2.2.2.2.2⟩) (fun _ => ?_)
        clear hK K
        try simp only [Act.put, pT_, pZ_, pS_]
        refine foldH ?_
        intro q hq
        obtain ⟨aO, ha⟩ : ∃ g, r.heap.size = g := ⟨_, rfl⟩
        rw [ha]
        have bw2 : w9.grownBy q (some g0) := by rw [hq]; exact gb_below bw (belA (bel0 r) (.cells #[.int .i64 0, .int .i64 0, .int .i64 0, .string ⟨#[]⟩, .slice none 0 0] 36))
        have kV2 : Blk q _ _ _ := hq ▸ kV.alloc (.cells #[.int .i64 0, .int .i64 0, .int .i64 0, .string ⟨#[]⟩, .slice none 0 0] 36)
        have kC2 : Blk q _ _ _ := hq ▸ kC.alloc (.cells #[.int .i64 0, .int .i64 0, .int .i64 0, .string ⟨#[]⟩, .slice none 0 0] 36)
        have kI2 : Blk q _ _ _ := hq ▸ kI.alloc (.cells #[.int .i64 0, .int .i64 0, .int .i64 0, .string ⟨#[]⟩, .slice none 0 0] 36)
        have kX2 : Blk q _ _ _ := hq ▸ kX.alloc (.cells #[.int .i64 0, .int .i64 0, .int .i64 0, .string ⟨#[]⟩, .slice none 0 0] 36)
        have kR2 : Blk q _ _ _ := hq ▸ kR.alloc (.cells #[.int .i64 0, .int .i64 0, .int .i64 0, .string ⟨#[]⟩, .slice none 0 0] 36)
        have kY2 : Blk q _ _ _ := hq ▸ kY.alloc (.cells #[.int .i64 0, .int .i64 0, .int .i64 0, .string ⟨#[]⟩, .slice none 0 0] 36)
        have pZ2 : (World.cell? q ⟨b, of_ + oj * 5, none⟩ = some (.int .i64 oid) /\ World.cell? q ⟨b, of_ + oj * 5 + 1, none⟩ = some (.int .i64 okd) /\ World.cell? q ⟨b, of_ + oj * 5 + 2, none⟩ = some (.int .i64 oln) /\ World.cell? q ⟨b, of_ + oj * 5 + 3, none⟩ = some (.string os_) /\ World.cell? q ⟨b, of_ + oj * 5 + 4, none⟩ = some (.slice Ao mo co) /\ World.cell? q ⟨b, of_ + k2 * 5 + 4, none⟩ = some (.slice (some ⟨b9, o9, none⟩) m2 c9) /\ World.cell? q ⟨b9, o9 + i2 * 4 + 3, none⟩ = some (.int .i64 ed2)) := by rw [hq]; exact ⟨keep1 (belA (bel0 _) _) pZ.1, keep1 (belA (bel0 _) _) pZ.2.1, keep1 (belA (bel0 _) _) pZ.2.2.1, keep1 (belA (bel0 _) _) pZ.2.2.2.1, keep1 (belA (bel0 _) _) pZ.2.2.2.2.1, keep1 (belA (bel0 _) _) pZ.2.2.2.2.2.1, keep1 (belA (bel0 _) _) pZ.2.2.2.2.2.2⟩
        have kO2 : Blk q aO 36 #[.int .i64 0, .int .i64 0, .int .i64 0, .string ⟨#[]⟩, .slice none 0 0] := by rw [hq, <- ha]; exact Blk.new' _ _ _ _ rfl
        have laO : w9.heap.size <= aO := by rw [<- ha]; exact bw.size
        exact key_rf_6_11_14 aO q ⟨bw2, kC2, kI2, kO2, kR2, kV2, kX2, kY2, pZ2, laO⟩
     case key =>
      rintro aO r ⟨bw, kC, kI, kO, kR, kV, kX, kY, pZ, laO⟩
      try dsimp only
      refine rd1_ 11 (fun K hK => ?br5022)
      case br5022 =>
       go_simp
       go_at_call 54
       refine (HAt2.out _ (hvv.out.next (belG B9 bw (by omega))).is).mono ?_
       rintro e q ⟨rfl, hb⟩
       have bw2 := gb_below bw hb
       have kV2 := kV.below hb kV.lt
       have kC2 := kC.below hb kC.lt
       have kI2 := kI.below hb kI.lt
       have kX2 := kX.below hb kX.lt
       have kR2 := kR.below hb kR.lt
       have kY2 := kY.below hb kY.lt
       have kO2 := kO.below hb kO.lt
       have pZ2 : (World.cell? q ⟨b, of_ + oj * 5, none⟩ = some (.int .i64 oid) /\ World.cell? q ⟨b, of_ + oj * 5 + 1, none⟩ = some (.int .i64 okd) /\ World.cell? q ⟨b, of_ + oj * 5 + 2, none⟩ = some (.int .i64 oln) /\ World.cell? q ⟨b, of_ + oj * 5 + 3, none⟩ = some (.string os_) /\ World.cell? q ⟨b, of_ + oj * 5 + 4, none⟩ = some (.slice Ao mo co) /\ World.cell? q ⟨b, of_ + k2 * 5 + 4, none⟩ = some (.slice (some ⟨b9, o9, none⟩) m2 c9) /\ World.cell? q ⟨b9, o9 + i2 * 4 + 3, none⟩ = some (.int .i64 ed2)) := ⟨keep1 hb pZ.1, keep1 hb pZ.2.1, keep1 hb pZ.2.2.1, keep1 hb pZ.2.2.2.1, keep1 hb pZ.2.2.2.2.1, keep1 hb pZ.2.2.2.2.2.1, keep1 hb pZ.2.2.2.2.2.2⟩
       refine hK.out _ _ (by exact ⟨kV2.get 0 rfl, kV2.get 1 rfl, kC2.get 3 rfl, pZ2.1, pZ2.2.1, pZ2.2.2.1, pZ2.2.2.2.1, pZ2.2.2.2.2.1, pZ2.2.2.2.2.2.1, pZ2.2.2.2.2.2.2⟩) (fun _ => ?_)
       clear hK K
       try simp only [Act.put, pT_, pZ_, pS_]
       refine tkW_ 12 ?_ (hS := by exact ⟨kV2.get 0 rfl, kV2.get 1 rfl, kC2.get 3 rfl, pZ2.1, pZ2.2.1, pZ2.2.2.1, pZ2.2.2.2.1, pZ2.2.2.2.2.1, pZ2.2.2.2.2.2.1, pZ2.2.2.2.2.2.2⟩)
       refine tkW_ 13 ?_ (hS := by exact ⟨kV2.get 0 rfl, kV2.get 1 rfl, kC2.get 3 rfl, pZ2.1, pZ2.2.1, pZ2.2.2.1, pZ2.2.2.2.1, pZ2.2.2.2.2.1, pZ2.2.2.2.2.2.1, pZ2.2.2.2.2.2.2⟩)
       exact key_rf_6_11_14 aO q ⟨bw2, kC2, kI2, kO2, kR2, kV2, kX2, kY2, pZ2, laO⟩
    case key =>
     rintro aO r ⟨bw, kC, kI, kO, kR, kV, kX, kY, pZ, laO⟩
     try dsimp only
     refine rd1_ 15 (fun K hK => ?br5025)
     case br5025 =>
      have kO10 := (((((kO.put 0 (.int .i64 oid) #[.int .i64 oid, .int .i64 0, .int .i64 0, .string ⟨#[]⟩, .slice none 0 0] rfl).put 1 (.int .i64 okd) #[.int .i64 oid, .int .i64 okd, .int .i64 0, .string ⟨#[]⟩, .slice none 0 0] rfl).put 2 (.int .i64 oln) #[.int .i64 oid, .int .i64 okd, .int .i64 oln, .string ⟨#[]⟩, .slice none 0 0] rfl).put 3 (.string os_) #[.int .i64 oid, .int .i64 okd, .int .i64 oln, .string os_, .slice none 0 0] rfl).put 4 (.slice Ao mo co) #[.int .i64 oid, .int .i64 okd, .int .i64 oln, .string os_, .slice Ao mo co] rfl)
      have kV10 := (((((kV.far (p := ⟨aO, 0, none⟩) (by show w.heap.size ≠ aO; omega) (.int .i64 oid)).far (p := ⟨aO, 1, none⟩) (by show w.heap.size ≠ aO; omega) (.int .i64 okd)).far (p := ⟨aO, 2, none⟩) (by show w.heap.size ≠ aO; omega) (.int .i64 oln)).far (p := ⟨aO, 3, none⟩) (by show w.heap.size ≠ aO; omega) (.string os_)).far (p := ⟨aO, 4, none⟩) (by show w.heap.size ≠ aO; omega) (.slice Ao mo co))
      have kC10 := (((((kC.far (p := ⟨aO, 0, none⟩) (by show (w.heap.size + 1) ≠ aO; omega) (.int .i64 oid)).far (p := ⟨aO, 1, none⟩) (by show (w.heap.size + 1) ≠ aO; omega) (.int .i64 okd)).far (p := ⟨aO, 2, none⟩) (by show (w.heap.size + 1) ≠ aO; omega) (.int .i64 oln)).far (p := ⟨aO, 3, none⟩) (by show (w.heap.size + 1) ≠ aO; omega) (.string os_)).far (p := ⟨aO, 4, none⟩) (by show (w.heap.size + 1) ≠ aO; omega) (.slice Ao mo co))
      have kI10 := (((((kI.far (p := ⟨aO, 0, none⟩) (by show (w.heap.size + 1 + 1) ≠ aO; omega) (.int .i64 oid)).far (p := ⟨aO, 1, none⟩) (by show (w.heap.size + 1 + 1) ≠ aO; omega) (.int .i64 okd)).far (p := ⟨aO, 2, none⟩) (by show (w.heap.size + 1 + 1) ≠ aO; omega) (.int .i64 oln)).far (p := ⟨aO, 3, none⟩) (by show (w.heap.size + 1 + 1) ≠ aO; omega) (.string os_)).far (p := ⟨aO, 4, none⟩) (by show (w.heap.size + 1 + 1) ≠ aO; omega) (.slice Ao mo co))
      have kX10 := (((((kX.far (p := ⟨aO, 0, none⟩) (by show (w.heap.size + 1 + 1 + 1) ≠ aO; omega) (.int .i64 oid)).far (p := ⟨aO, 1, none⟩) (by show (w.heap.size + 1 + 1 + 1) ≠ aO; omega) (.int .i64 okd)).far (p := ⟨aO, 2, none⟩) (by show (w.heap.size + 1 + 1 + 1) ≠ aO; omega) (.int .i64 oln)).far (p := ⟨aO, 3, none⟩) (by show (w.heap.size + 1 + 1 + 1) ≠ aO; omega) (.string os_)).far (p := ⟨aO, 4, none⟩) (by show (w.heap.size + 1 + 1 + 1) ≠ aO; omega) (.slice Ao mo co))
      have kR10 := (((((kR.far (p := ⟨aO, 0, none⟩) (by show (w.heap.size + 1 + 1 + 1 + 1) ≠ aO; omega) (.int .i64 oid)).far (p := ⟨aO, 1, none⟩) (by show (w.heap.size + 1 + 1 + 1 + 1) ≠ aO; omega) (.int .i64 okd)).far (p := ⟨aO, 2, none⟩) (by show (w.heap.size + 1 + 1 + 1 + 1) ≠ aO; omega) (.int .i64 oln)).far (p := ⟨aO, 3, none⟩) (by show (w.heap.size + 1 + 1 + 1 + 1) ≠ aO; omega) (.string os_)).far (p := ⟨aO, 4, none⟩) (by show (w.heap.size + 1 + 1 + 1 + 1) ≠ aO; omega) (.slice Ao mo co))
      have kY10 := (((((kY.far (p := ⟨aO, 0, none⟩) (by show py ≠ aO; omega) (.int .i64 oid)).far (p := ⟨aO, 1, none⟩) (by show py ≠ aO; omega) (.int .i64 okd)).far (p := ⟨aO, 2, none⟩) (by show py ≠ aO; omega) (.int .i64 oln)).far (p := ⟨aO, 3, none⟩) (by show py ≠ aO; omega) (.string os_)).far (p := ⟨aO, 4, none⟩) (by show py ≠ aO; omega) (.slice Ao mo co))
      have zz0 := (farCL (b := aO) (o := 4) (u := (.slice Ao mo co)) (by omega) (farCL (b := aO) (o := 3) (u := (.string os_)) (by omega) (farCL (b := aO) (o := 2) (u := (.int .i64 oln)) (by omega) (farCL (b := aO) (o := 1) (u := (.int .i64 okd)) (by omega) (farCL (b := aO) (o := 0) (u := (.int .i64 oid)) (by omega) pZ.1)))))
      have zz1 := (farCL (b := aO) (o := 4) (u := (.slice Ao mo co)) (by omega) (farCL (b := aO) (o := 3) (u := (.string os_)) (by omega) (farCL (b := aO) (o := 2) (u := (.int .i64 oln)) (by omega) (farCL (b := aO) (o := 1) (u := (.int .i64 okd)) (by omega) (farCL (b := aO) (o := 0) (u := (.int .i64 oid)) (by omega) pZ.2.1)))))
      have zz2 := (farCL (b := aO) (o := 4) (u := (.slice Ao mo co)) (by omega) (farCL (b := aO) (o := 3) (u := (.string os_)) (by omega) (farCL (b := aO) (o := 2) (u := (.int .i64 oln)) (by omega) (farCL (b := aO) (o := 1) (u := (.int .i64 okd)) (by omega) (farCL (b := aO) (o := 0) (u := (.int .i64 oid)) (by omega) pZ.2.2.1)))))
      have zz3 := (farCL (b := aO) (o := 4) (u := (.slice Ao mo co)) (by omega) (farCL (b := aO) (o := 3) (u := (.string os_)) (by omega) (farCL (b := aO) (o := 2) (u := (.int .i64 oln)) (by omega) (farCL (b := aO) (o := 1) (u := (.int .i64 okd)) (by omega) (farCL (b := aO) (o := 0) (u := (.int .i64 oid)) (by omega) pZ.2.2.2.1)))))
      have zz4 := (farCL (b := aO) (o := 4) (u := (.slice Ao mo co)) (by omega) (farCL (b := aO) (o := 3) (u := (.string os_)) (by omega) (farCL (b := aO) (o := 2) (u := (.int .i64 oln)) (by omega) (farCL (b := aO) (o := 1) (u := (.int .i64 okd)) (by omega) (farCL (b := aO) (o := 0) (u := (.int .i64 oid)) (by omega) pZ.2.2.2.2.1)))))
      have zz5 := (farCL (b := aO) (o := 4) (u := (.slice Ao mo co)) (by omega) (farCL (b := aO) (o := 3) (u := (.string os_)) (by omega) (farCL (b := aO) (o := 2) (u := (.int .i64 oln)) (by omega) (farCL (b := aO) (o := 1) (u := (.int .i64 okd)) (by omega) (farCL (b := aO) (o := 0) (u := (.int .i64 oid)) (by omega) pZ.2.2.2.2.2.1)))))
      have zz6 := (farCL (b := aO) (o := 4) (u := (.slice Ao mo co)) (by omega) (farCL (b := aO) (o := 3) (u := (.string os_)) (by omega) (farCL (b := aO) (o := 2) (u := (.int .i64 oln)) (by omega) (farCL (b := aO) (o := 1) (u := (.int .i64 okd)) (by omega) (farCL (b := aO) (o := 0) (u := (.int .i64 oid)) (by omega) pZ.2.2.2.2.2.2)))))
      have B10 : Below w.heap.size w _ := (belC (belC (belC (belC (belC (belG B9 bw (by omega)) aO 0 (by omega) (.int .i64 oid)) aO 1 (by omega) (.int .i64 okd)) aO 2 (by omega) (.int .i64 oln)) aO 3 (by omega) (.string os_)) aO 4 (by omega) (.slice Ao mo co))
      have y10 := (YR.farI (YR.farI (YR.farI (YR.farI (YR.farI (Y9.out.below (belG (bel0 w9) bw (show w9.heap.size <= g0 by omega))) kO (show gy ≠ aO by omega) 0 (.int .i64 oid)) (kO.put 0 (.int .i64 oid) #[.int .i64 oid, .int .i64 0, .int .i64 0, .string ⟨#[]⟩, .slice none 0 0] rfl) (show gy ≠ aO by omega) 1 (.int .i64 okd)) ((kO.put 0 (.int .i64 oid) #[.int .i64 oid, .int .i64 0, .int .i64 0, .string ⟨#[]⟩, .slice none 0 0] rfl).put 1 (.int .i64 okd) #[.int .i64 oid, .int .i64 okd, .int .i64 0, .string ⟨#[]⟩, .slice none 0 0] rfl) (show gy ≠ aO by omega) 2 (.int .i64 oln)) (((kO.put 0 (.int .i64 oid) #[.int .i64 oid, .int .i64 0, .int .i64 0, .string ⟨#[]⟩, .slice none 0 0] rfl).put 1 (.int .i64 okd) #[.int .i64 oid, .int .i64 okd, .int .i64 0, .string ⟨#[]⟩, .slice none 0 0] rfl).put 2 (.int .i64 oln) #[.int .i64 oid, .int .i64 okd, .int .i64 oln, .string ⟨#[]⟩, .slice none 0 0] rfl) (show gy ≠ aO by omega) 3 (.string os_)) ((((kO.put 0 (.int .i64 oid) #[.int .i64 oid, .int .i64 0, .int .i64 0, .string ⟨#[]⟩, .slice none 0 0] rfl).put 1 (.int .i64 okd) #[.int .i64 oid, .int .i64 okd, .int .i64 0, .string ⟨#[]⟩, .slice none 0 0] rfl).put 2 (.int .i64 oln) #[.int .i64 oid, .int .i64 okd, .int .i64 oln, .string ⟨#[]⟩, .slice none 0 0] rfl).put 3 (.string os_) #[.int .i64 oid, .int .i64 okd, .int .i64 oln, .string os_, .slice none 0 0] rfl) (show gy ≠ aO by omega) 4 (.slice Ao mo co))
      obtain ⟨w10, hw10⟩ : ∃ W, (((((r.setCell ⟨aO, 0, none⟩ (.int .i64 oid)).setCell ⟨aO, 1, none⟩ (.int .i64 okd)).setCell ⟨aO, 2, none⟩ (.int .i64 oln)).setCell ⟨aO, 3, none⟩ (.string os_)).setCell ⟨aO, 4, none⟩ (.slice Ao mo co)) = W := ⟨_, rfl⟩
      rw [hw10] at kO10 kV10 kC10 kI10 kX10 kR10 kY10 zz0 zz1 zz2 zz3 zz4 zz5 zz6 B10 y10
      have hO10 : aO < w10.heap.size := kO10.lt
      obtain ⟨xf0, xf1, xf2, xf3, xf4⟩ := kO.f5
      obtain ⟨xx0, xx1, xx2, xx3, xx4⟩ := kO.g5
      have xl := kO.lt
      go_simp
      refine hK.out _ _ (by first | exact ⟨kV10.get 0 rfl, kV10.get 1 rfl, kC10.get 3 rfl, zz0, zz1, zz2, zz3, zz4, zz5, zz6⟩ | (rw [hw10]; exact ⟨kV10.get 0 rfl, kV10.get 1 rfl, kC10.get 3 rfl, zz0, zz1, zz2, zz3, zz4, zz5, zz6⟩)) (fun _ => ?_)
      clear hK K
      try simp only [Act.put, pT_, pZ_, pS_]
      try rw [hw10]
      clear hw10 xl zz0 zz1 zz2 zz3 zz4 zz5 zz6 kO pZ bw kV kC kI kX kR kY xf0 xx0 xf1 xx1 xf2 xx2 xf3 xx3 xf4 xx4
      refine wpAnyH_done (by kernel_rfl) ?_ _
      have Y10 := Lib.hid y10
      clear y10
      clear Y9 B9 kV9 kC9 kI9 kX9 kR9 kY9 z0 z1 z2 z3 z4 za zb hz4 he3 hle9
      have aOl : w.heap.size + 5 <= aO /\ py < aO := by omega
      go_upto_block 0 with fail
      go_cut [8] from 164 to 197 (fun _ wx => Hid ((Blk wx w.heap.size 26 #[.int .i64 nx, .slice (some ⟨b, of_, none⟩) xs.length c]) /\ (Blk wx (w.heap.size + 1) 95 #[.int .i64 kd, .int .i64 a, .string s, .int .i64 tg, .string nm, .string dt]) /\ (Blk wx (w.heap.size + 1 + 1) 36 #[.int .i64 xid, .int .i64 xkd, .int .i64 xln, .string xs_, .slice Ax mx cx]) /\ (Blk wx (w.heap.size + 1 + 1 + 1) 26 #[.int .i64 0, .slice none 0 0]) /\ (Blk wx (w.heap.size + 1 + 1 + 1 + 1) 54 #[.int .i64 0, .int .i64 0, .string ⟨#[]⟩, .string ⟨#[]⟩]) /\ (Blk wx py 26 #[.int .i64 nx, .slice (some ⟨gy, 0, none⟩) xs.length cy]) /\ (Blk wx aO 36 #[.int .i64 oid, .int .i64 okd, .int .i64 oln, .string os_, .slice Ao mo co]) /\ Below w.heap.size w wx /\ (YR wx w6.heap.size gy cy xs us) /\ oes = []))
      case first =>
       have i_1 := kI10.get 1 rfl
       have o_1 := kO10.get 1 rfl
       have o_4 := kO10.get 4 rfl
       by_cases hx2 : xkd = 2
       ·have t1 : (xkd == 2) = true := by rw [hx2]; rfl
        have t1' : (xkd != 2) = false := by rw [hx2]; rfl
        clear hx2
        by_cases ho2 : okd = 2
        ·have t2 : (okd != 2) = false := by rw [ho2]; rfl
         have t2' : (okd == 2) = true := by rw [ho2]; rfl
         clear ho2
         by_cases hm0 : (0 : Int) < (mo : Int)
         ·have t3 : decide ((0 : Int) < (mo : Int)) = true := decide_eq_true hm0
          go_upto_region 23 with fail
          clear i_1 o_1 o_4
          obtain ⟨v_0, v_1⟩ := kV10.g2
          obtain ⟨x_0, x_1⟩ := kX10.g2
          obtain ⟨r_0, r_1, r_2, r_3⟩ := kR10.g4
          obtain ⟨xf0, xf1⟩ := kX10.f2
          have xl := kX10.lt
          obtain ⟨rf0, rf1, rf2, rf3⟩ := kR10.f4
          have rl := kR10.lt
          go_wp2
          refine foldBPL ?_
          intro wf hwf
          obtain ⟨hX, hR, hB⟩ : Blk wf (w.heap.size + 1 + 1 + 1) 26 #[.int .i64 nx, .slice (some ⟨b, of_, none⟩) xs.length c] /\ Blk wf (w.heap.size + 1 + 1 + 1 + 1) 54 #[.int .i64 6, .int .i64 0, .string ⟨#[]⟩, .string ⟨#[]⟩] /\ Below w.heap.size w wf := by
           rw [hwf]
           first
            | exact two_putL _ _ _ _ _ _ kX10 kR10 (by omega) B10 (by omega) (by omega)
            | exact two_putL _ _ _ _ _ _ kX10.drew kR10.drew (by omega) B10.drew (by omega) (by omega)
          clear hwf x_0 x_1 r_0 r_1 r_2 r_3
          obtain ⟨x_0, x_1⟩ := hX.g2
          obtain ⟨r_0, r_1, r_2, r_3⟩ := hR.g4
          refine bodyPost_ret (v := .tuple #[.agg #[.int .i64 nx, .slice (some ⟨b, of_, none⟩) xs.length c], .agg #[.int .i64 6, .int .i64 0, .string ⟨#[]⟩, .string ⟨#[]⟩]]) (by simp [results, Tryz.results223, go_sem, x_0, x_1, r_0, r_1, r_2, r_3]) rfl ⟨⟨_, _, _, rfl, ⟨_, _, _, _, rfl⟩, Hqm.out, .inl ⟨rfl, rfl⟩⟩, hB⟩
         ·have t3 : decide ((0 : Int) < (mo : Int)) = false := decide_eq_false hm0
          go_wp2_with fail
          go_meet
          exact Lib.hid ⟨kV10, kC10, kI10, kX10, kR10, kY10, kO10, B10, Y10.out, List.length_eq_zero_iff.1 (by have := Hmo.out; omega)⟩
        ·have t2 : (okd != 2) = true := by simpa using ho2
         clear ho2
         go_upto_region 21 with fail
         clear i_1 o_1 o_4
         obtain ⟨v_0, v_1⟩ := kV10.g2
         obtain ⟨x_0, x_1⟩ := kX10.g2
         obtain ⟨r_0, r_1, r_2, r_3⟩ := kR10.g4
         obtain ⟨xf0, xf1⟩ := kX10.f2
         have xl := kX10.lt
         obtain ⟨rf0, rf1, rf2, rf3⟩ := kR10.f4
         have rl := kR10.lt
         go_wp2
         refine foldBPL ?_
         intro wf hwf
         obtain ⟨hX, hR, hB⟩ : Blk wf (w.heap.size + 1 + 1 + 1) 26 #[.int .i64 nx, .slice (some ⟨b, of_, none⟩) xs.length c] /\ Blk wf (w.heap.size + 1 + 1 + 1 + 1) 54 #[.int .i64 4, .int .i64 0, .string ⟨#[]⟩, .string ⟨#[]⟩] /\ Below w.heap.size w wf := by
          rw [hwf]
          first
           | exact two_putL _ _ _ _ _ _ kX10 kR10 (by omega) B10 (by omega) (by omega)
           | exact two_putL _ _ _ _ _ _ kX10.drew kR10.drew (by omega) B10.drew (by omega) (by omega)
         clear hwf x_0 x_1 r_0 r_1 r_2 r_3
         obtain ⟨x_0, x_1⟩ := hX.g2
         obtain ⟨r_0, r_1, r_2, r_3⟩ := hR.g4
         refine bodyPost_ret (v := .tuple #[.agg #[.int .i64 nx, .slice (some ⟨b, of_, none⟩) xs.length c], .agg #[.int .i64 4, .int .i64 0, .string ⟨#[]⟩, .string ⟨#[]⟩]]) (by simp [results, Tryz.results223, go_sem, x_0, x_1, r_0, r_1, r_2, r_3]) rfl ⟨⟨_, _, _, rfl, ⟨_, _, _, _, rfl⟩, Hqm.out, .inl ⟨rfl, rfl⟩⟩, hB⟩
       ·have t1 : (xkd == 2) = false := by simpa using hx2
        have t1' : (xkd != 2) = true := by simpa using hx2
        clear hx2
        by_cases ho2 : okd = 2
        ·have t2' : (okd == 2) = true := by rw [ho2]; rfl
         clear ho2
         go_upto_region 25 with fail
         clear i_1 o_1 o_4
         obtain ⟨v_0, v_1⟩ := kV10.g2
         obtain ⟨x_0, x_1⟩ := kX10.g2
         obtain ⟨r_0, r_1, r_2, r_3⟩ := kR10.g4
         obtain ⟨xf0, xf1⟩ := kX10.f2
         have xl := kX10.lt
         obtain ⟨rf0, rf1, rf2, rf3⟩ := kR10.f4
         have rl := kR10.lt
         go_wp2
         refine foldBPL ?_
         intro wf hwf
         obtain ⟨hX, hR, hB⟩ : Blk wf (w.heap.size + 1 + 1 + 1) 26 #[.int .i64 nx, .slice (some ⟨b, of_, none⟩) xs.length c] /\ Blk wf (w.heap.size + 1 + 1 + 1 + 1) 54 #[.int .i64 5, .int .i64 0, .string ⟨#[]⟩, .string ⟨#[]⟩] /\ Below w.heap.size w wf := by
          rw [hwf]
          first
           | exact two_putL _ _ _ _ _ _ kX10 kR10 (by omega) B10 (by omega) (by omega)
           | exact two_putL _ _ _ _ _ _ kX10.drew kR10.drew (by omega) B10.drew (by omega) (by omega)
         clear hwf x_0 x_1 r_0 r_1 r_2 r_3
         obtain ⟨x_0, x_1⟩ := hX.g2
         obtain ⟨r_0, r_1, r_2, r_3⟩ := hR.g4
         refine bodyPost_ret (v := .tuple #[.agg #[.int .i64 nx, .slice (some ⟨b, of_, none⟩) xs.length c], .agg #[.int .i64 5, .int .i64 0, .string ⟨#[]⟩, .string ⟨#[]⟩]]) (by simp [results, Tryz.results223, go_sem, x_0, x_1, r_0, r_1, r_2, r_3]) rfl ⟨⟨_, _, _, rfl, ⟨_, _, _, _, rfl⟩, Hqm.out, .inl ⟨rfl, rfl⟩⟩, hB⟩
        ·have t2' : (okd == 2) = false := by simpa using ho2
         have hes : oes = [] := by
          rcases Hq.out.kd _ (List.getElem_mem hoj) with h | h
          ·rw [HXo.out] at h; exact h.2
          ·rw [HXo.out] at h; exact absurd h ho2
         clear ho2
         go_wp2_with fail
         go_meet
         exact Lib.hid ⟨kV10, kC10, kI10, kX10, kR10, kY10, kO10, B10, Y10.out, hes⟩
      case rest =>
       obtain ⟨kVd, kCd, kId, kXd, kRd, kYd, kOd, Bd, Yd0, hes⟩ := hcut.out
       have Yd := Lib.hid Yd0
       have Hes := Lib.hid hes
       clear hcut hes Yd0 Y10 B10 kV10 kC10 kI10 kX10 kR10 kY10 kO10
       obtain ⟨wd, hwd⟩ : ∃ W, W = wc := ⟨_, rfl⟩
       subst hwd
       have sd : w.heap.size + 5 <= wd.heap.size /\ py < wd.heap.size /\ aO < wd.heap.size := ⟨by have := kRd.lt; omega, kYd.lt, kOd.lt⟩
       go_upto_region 26 with fail
       have Hdk2 := Lib.hid (Hq.out.dir _ (List.getElem_mem hk2))
       have Hn15 := Lib.hid (fun W hW => l6Ents_n (n := xs.length) (m := m2) w6.heap.size gy cy nx xs us xs[k2].es rfl (by omega) tg k2 hk2 Hpt.out rfl Hm2.out W hW)
       have hlod : w6.heap.size <= wd.heap.size := by have := Yd.out.hi; omega
       obtain ⟨y_0, y_1⟩ := kYd.g2
       have c_3 := kCd.get 3 rfl
       have c_4 := kCd.get 4 rfl
       have i_0 := kId.get 0 rfl
       go_region_held3 (fun w' => w'.cell? ⟨py, 0, none⟩ = some (.int .i64 nx) /\ w'.cell? ⟨py, 1, none⟩ = some (.slice (some ⟨gy, 0, none⟩) xs.length cy) /\ w'.cell? ⟨(w.heap.size + 1), 3, none⟩ = some (.int .i64 tg) /\ w'.cell? ⟨(w.heap.size + 1), 4, none⟩ = some (.string nm) /\ w'.cell? ⟨(w.heap.size + 1 + 1), 0, none⟩ = some (.int .i64 xid))
        (first | go_keep | (refine ⟨keep1 hb14 ?_, keep1 hb14 ?_, keep1 hb14 ?_, keep1 hb14 ?_, keep1 hb14 ?_⟩ <;> go_keep) | (exact ⟨kY15.get 0 rfl, kY15.get 1 rfl, kC15.get 3 rfl, kC15.get 4 rfl, kI15.get 0 rfl⟩))
        (first
         | (go_at_call 220; refine (Hn15.out _ (Yd.out.below (bel0 wd).drew)).mono ?_; rintro e w14 ⟨vkR, hvkR, rfl, hokR, hb14⟩)
         | (go_at_call 242; refine (l5Respell_own w6.heap.size m2 vkR xs[k2].es Hdk2.out (dir_sz Hdk2.out) nm (by omega) xid _ hokR).mono ?_; rintro e w15 ⟨⟨LR, bR, hPR, hnLR, rfl, hoLR⟩, hg15⟩; have bm14 := (bel0 wd).drew.trans hb14; have kV15 := (kVd.below bm14 kVd.lt).grown hg15 (fun e => own_blk_ne hokR (kVd.below bm14 kVd.lt) (by decide) e.symm); have kC15 := (kCd.below bm14 kCd.lt).grown hg15 (fun e => own_blk_ne hokR (kCd.below bm14 kCd.lt) (by decide) e.symm); have kI15 := (kId.below bm14 kId.lt).grown hg15 (fun e => own_blk_ne hokR (kId.below bm14 kId.lt) (by decide) e.symm); have kX15 := (kXd.below bm14 kXd.lt).grown hg15 (fun e => own_blk_ne hokR (kXd.below bm14 kXd.lt) (by decide) e.symm); have kR15 := (kRd.below bm14 kRd.lt).grown hg15 (fun e => own_blk_ne hokR (kRd.below bm14 kRd.lt) (by decide) e.symm); have kY15 := (kYd.below bm14 kYd.lt).grown hg15 (fun e => own_blk_ne hokR (kYd.below bm14 kYd.lt) (by decide) e.symm); have kO15 := (kOd.below bm14 kOd.lt).grown hg15 (fun e => own_blk_ne hokR (kOd.below bm14 kOd.lt) (by decide) e.symm)))
       clear y_0 y_1 c_3 c_4 i_0
       have Y15 := Lib.hid (YR.spell (Yd.out.below ((bel0 wd).drew.trans hb14)) Hdis.out hk2 hvkR hg15 hnLR hoLR)
       have hgb15 : wd.grownBy w15 vkR.ownBlock := (gb_any ((bel0 wd).drew.trans hb14)).trans hg15
       have Bq15 := belN Bd ((bel0 wd).drew.trans hb14)
       have B15 : Below w.heap.size w w15 := Bq15.grown hg15 Bq15.size (fun g e => by have := (hokR.lt g e).1; omega)
       clear Bq15
       have HoLR := Lib.hid hoLR
       have HPR := Lib.hid hPR
       have HnLR := Lib.hid hnLR
       clear hPR hoLR hnLR hokR hb14 hg15 hgb15 Yd Bd kVd kCd kId kXd kRd kYd kOd
       have hk2r : k2 < (ptE xs k2 LR).length := by rw [putE_len]; exact hk2
       have hpr : plc (ptE xs k2 LR) tg = (k2 : Int) := by rw [putE_plc hk2]; exact Hpt.out
       have Hpr := Lib.hid hpr
       clear hpr
       obtain ⟨y_0, y_1⟩ := kY15.g2
       have c_3 := kC15.get 3 rfl
       go_wp2_with fail
       refine (l6With_n (n := xs.length) w6.heap.size gy cy nx (ptE xs k2 LR) us putE_len tg k2 hk2r vkR LR _ Y15.out Hpr.out (by rw [putE_len]; omega) (by rw [HnLR.out]; exact HoLR.out)).mono ?_
       rintro e w16 ⟨rfl, hZ16, hg16⟩
       clear y_0 y_1 c_3
       have hgy16 := Y15.out.hi
       have B16 := belG B15 hg16 (by omega)
       have kV16 := blk_gV kV15 hg16 (show w.heap.size ≠ gy by omega)
       have kC16 := blk_gV kC15 hg16 (show (w.heap.size + 1) ≠ gy by omega)
       have kI16 := blk_gV kI15 hg16 (show (w.heap.size + 1 + 1) ≠ gy by omega)
       have kX16 := blk_gV kX15 hg16 (show (w.heap.size + 1 + 1 + 1) ≠ gy by omega)
       have kR16 := blk_gV kR15 hg16 (show (w.heap.size + 1 + 1 + 1 + 1) ≠ gy by omega)
       have kY16 := blk_gV kY15 hg16 (show py ≠ gy by omega)
       have kO16 := blk_gV kO15 hg16 (show aO ≠ gy by omega)
       clear kV15 kC15 kI15 kX15 kR15 kY15 kO15
       clear hg16 B15 Y15
       rw [putE_putE hk2] at hZ16
       obtain ⟨x1, hx1⟩ : ∃ z, ptE xs k2 LR = z := ⟨_, rfl⟩
       obtain ⟨u1, hu1⟩ : ∃ z, us.set k2 vkR = z := ⟨_, rfl⟩
       rw [hx1, hu1] at hZ16
       have hl1 : x1.length = xs.length := by rw [<- hx1]; exact putE_len
       have hp11 : plc x1 a = (k : Int) := by rw [<- hx1, putE_plc hk2]; exact Hp.out
       have hk1 : k < x1.length := by omega
       have Hx1 := Lib.hid hx1
       have Hl1 := Lib.hid hl1
       have Hp11 := Lib.hid hp11
       clear hx1 hu1 hl1 hp11 HoLR Hpr hk2r
       obtain ⟨y_0, y_1⟩ := kY16.g2
       obtain ⟨yf0, yf1⟩ := kY16.f2
       have yl := kY16.lt
       go_upto_region 28 with fail
       clear y_0 y_1 yf0 yf1 yl
       obtain ⟨w17, hw17⟩ : ∃ W, (w16.setCell ⟨py, 0, none⟩ (.int .i64 nx)).setCell ⟨py, 1, none⟩ (.slice (some ⟨gy, 0, none⟩) xs.length cy) = W := ⟨_, rfl⟩
       have kV17 : Blk w17 w.heap.size 26 #[.int .i64 nx, .slice (some ⟨b, of_, none⟩) xs.length c] := by rw [<- hw17]; exact (kV16.far (p := ⟨py, 0, none⟩) (show w.heap.size ≠ py by omega) _).far (p := ⟨py, 1, none⟩) (show w.heap.size ≠ py by omega) _
       have kC17 : Blk w17 (w.heap.size + 1) 95 #[.int .i64 kd, .int .i64 a, .string s, .int .i64 tg, .string nm, .string dt] := by rw [<- hw17]; exact (kC16.far (p := ⟨py, 0, none⟩) (show (w.heap.size + 1) ≠ py by omega) _).far (p := ⟨py, 1, none⟩) (show (w.heap.size + 1) ≠ py by omega) _
       have kI17 : Blk w17 (w.heap.size + 1 + 1) 36 #[.int .i64 xid, .int .i64 xkd, .int .i64 xln, .string xs_, .slice Ax mx cx] := by rw [<- hw17]; exact (kI16.far (p := ⟨py, 0, none⟩) (show (w.heap.size + 1 + 1) ≠ py by omega) _).far (p := ⟨py, 1, none⟩) (show (w.heap.size + 1 + 1) ≠ py by omega) _
       have kX17 : Blk w17 (w.heap.size + 1 + 1 + 1) 26 #[.int .i64 0, .slice none 0 0] := by rw [<- hw17]; exact (kX16.far (p := ⟨py, 0, none⟩) (show (w.heap.size + 1 + 1 + 1) ≠ py by omega) _).far (p := ⟨py, 1, none⟩) (show (w.heap.size + 1 + 1 + 1) ≠ py by omega) _
       have kR17 : Blk w17 (w.heap.size + 1 + 1 + 1 + 1) 54 #[.int .i64 0, .int .i64 0, .string ⟨#[]⟩, .string ⟨#[]⟩] := by rw [<- hw17]; exact (kR16.far (p := ⟨py, 0, none⟩) (show (w.heap.size + 1 + 1 + 1 + 1) ≠ py by omega) _).far (p := ⟨py, 1, none⟩) (show (w.heap.size + 1 + 1 + 1 + 1) ≠ py by omega) _
       have kY17 : Blk w17 py 26 #[.int .i64 nx, .slice (some ⟨gy, 0, none⟩) xs.length cy] := by rw [<- hw17]; exact (kY16.put 0 (.int .i64 nx) _ rfl).put 1 (.slice (some ⟨gy, 0, none⟩) xs.length cy) _ rfl
       have kO17 : Blk w17 aO 36 #[.int .i64 oid, .int .i64 okd, .int .i64 oln, .string os_, .slice Ao mo co] := by rw [<- hw17]; exact (kO16.far (p := ⟨py, 0, none⟩) (show aO ≠ py by omega) _).far (p := ⟨py, 1, none⟩) (show aO ≠ py by omega) _
       have Y17 : Hid (YR w17 w6.heap.size gy cy x1 u1) := Lib.hid (by rw [<- hw17]; exact (hZ16.farV kY16 0 _).farV (kY16.put 0 (.int .i64 nx) #[.int .i64 nx, .slice (some ⟨gy, 0, none⟩) xs.length cy] rfl) 1 _)
       have B17 : Below w.heap.size w w17 := by rw [<- hw17]; exact belC (belC B16 py 0 (by omega) _) py 1 (by omega) _
       rw [hw17]
       clear hw17 hZ16 B16 kV16 kC16 kI16 kX16 kR16 kY16 kO16
       obtain ⟨e2, he2⟩ : ∃ z, x1[k].es = z := ⟨_, rfl⟩
       have QR := QG.spell Hq.out hk2 (s := nm) (i := xid) (by rw [<- Hxi.out]; have h1 := Hq.out.id _ (List.getElem_mem hj); have h2 := Hq.out.nx; exact inI_true.2 ⟨h1.1, by simp only at h1 h2; omega⟩) (by have h1 := Hq.out.es _ (List.getElem_mem hk) _ (List.getElem_mem hi); rw [Hxd.out] at h1; exact h1.1) ⟨_, List.getElem_mem hj, Hxi.out⟩ hi2 Hf2.out
       simp only [HPR.out] at QR
       rw [Hx1.out] at QR
       have hde2 : dirOkB e2 = true := by rw [<- he2]; exact QR.dir _ (List.getElem_mem hk1)
       have Hde2 := Lib.hid hde2
       have He2 := Lib.hid he2
       obtain ⟨m3, hm3⟩ : ∃ z, e2.length = z := ⟨_, rfl⟩
       have Hm3 := Lib.hid hm3
       clear QR hde2 he2 hm3
       have Hn19 := Lib.hid (fun W hW => l6Ents_n (n := xs.length) (m := m3) w6.heap.size gy cy nx x1 u1 e2 Hl1.out (by omega) a k hk1 Hp11.out He2.out Hm3.out W hW)
       have hlo17 : w6.heap.size <= w17.heap.size := by have := Y17.out.hi; omega
       obtain ⟨y_0, y_1⟩ := kY17.g2
       have c_1 := kC17.get 1 rfl
       have c_2 := kC17.get 2 rfl
       go_region_held3 (fun w' => w'.cell? ⟨py, 0, none⟩ = some (.int .i64 nx) /\ w'.cell? ⟨py, 1, none⟩ = some (.slice (some ⟨gy, 0, none⟩) xs.length cy) /\ w'.cell? ⟨(w.heap.size + 1), 1, none⟩ = some (.int .i64 a) /\ w'.cell? ⟨(w.heap.size + 1), 2, none⟩ = some (.string s))
        (first | go_keep | (refine ⟨keep1 hb18 ?_, keep1 hb18 ?_, keep1 hb18 ?_, keep1 hb18 ?_⟩ <;> go_keep) | (refine ⟨keep1 hb19 ?_, keep1 hb19 ?_, keep1 hb19 ?_, keep1 hb19 ?_⟩ <;> go_keep))
        (first
         | (go_at_call 220; refine (Hn19.out _ (Y17.out.below (bel0 w17).drew)).mono ?_; rintro e w18 ⟨vkD, hvkD, rfl, hokD, hb18⟩)
         | (go_at_call 179; refine (l5Drop_any w6.heap.size m3 vkD e2 Hde2.out (dir_sz Hde2.out) s (by omega) _ (Nat.le_trans hlo17 hb18.size) hokD).mono ?_; rintro e w19 ⟨⟨LD, bD, vLD, nLD, hPD, hnLD, rfl, hoLD⟩, hb19⟩))
       clear y_0 y_1 c_1 c_2
       subst hnLD
       obtain ⟨AeD, ceD, rfl, _⟩ := own_vals hoLD
       have b19 : Below w17.heap.size w17 w19 := ((bel0 w17).drew.trans hb18).trans (hb19.mono hb18.size)
       have HoLD := Lib.hid hoLD
       have Y19 := Lib.hid (Y17.out.below b19)
       have B19 := belN B17 b19
       have kV19 := kV17.below b19 kV17.lt
       have kC19 := kC17.below b19 kC17.lt
       have kI19 := kI17.below b19 kI17.lt
       have kX19 := kX17.below b19 kX17.lt
       have kR19 := kR17.below b19 kR17.lt
       have kY19 := kY17.below b19 kY17.lt
       have kO19 := kO17.below b19 kO17.lt
       clear kV17 kC17 kI17 kX17 kR17 kY17 kO17
       have HPD := Lib.hid hPD
       clear hPD hoLD hokD hb18 hb19 b19 Y17 B17
       obtain ⟨y_0, y_1⟩ := kY19.g2
       have c_1 := kC19.get 1 rfl
       go_wp2_with fail
       refine (l6With_n (n := xs.length) w6.heap.size gy cy nx x1 u1 Hl1.out a k hk1 (Value.slice AeD LD.length ceD) LD _ Y19.out Hp11.out (by have := Hl1.out; omega) HoLD.out).mono ?_
       rintro e w20 ⟨rfl, hZ20, hg20⟩
       clear y_0 y_1 c_1
       have hgy20 := Y19.out.hi
       have B20 := belG B19 hg20 (by omega)
       have kV20 := blk_gV kV19 hg20 (show w.heap.size ≠ gy by omega)
       have kC20 := blk_gV kC19 hg20 (show (w.heap.size + 1) ≠ gy by omega)
       have kI20 := blk_gV kI19 hg20 (show (w.heap.size + 1 + 1) ≠ gy by omega)
       have kX20 := blk_gV kX19 hg20 (show (w.heap.size + 1 + 1 + 1) ≠ gy by omega)
       have kR20 := blk_gV kR19 hg20 (show (w.heap.size + 1 + 1 + 1 + 1) ≠ gy by omega)
       have kY20 := blk_gV kY19 hg20 (show py ≠ gy by omega)
       have kO20 := blk_gV kO19 hg20 (show aO ≠ gy by omega)
       clear kV19 kC19 kI19 kX19 kR19 kY19 kO19
       clear hg20 B19 Y19
       obtain ⟨x2, hx2⟩ : ∃ z, ptE x1 k LD = z := ⟨_, rfl⟩
       obtain ⟨u2, hu2⟩ : ∃ z, u1.set k (Value.slice AeD LD.length ceD) = z := ⟨_, rfl⟩
       rw [hx2, hu2] at hZ20
       have hok2 : oj ≠ k2 := by rintro rfl; have h1 := hi2; rw [HXo.out] at h1; simp only [Hes.out, List.length_nil] at h1; omega
       have hokk : oj ≠ k := by rintro rfl; have h1 := hi; rw [HXo.out] at h1; simp only [Hes.out, List.length_nil] at h1; omega
       have hl2 : x2.length = xs.length := by rw [<- hx2, putE_len]; exact Hl1.out
       have hoj1 : oj < x1.length := by have := Hl1.out; omega
       have hoj2 : oj < x2.length := by omega
       have hxo2 : x2[oj] = xs[oj] := by
        have e1 : x2[oj] = x1[oj] := by subst hx2; exact putE_ne hk1 hokk hoj2
        have h0 := Hx1.out
        have e2 : x1[oj] = xs[oj] := by subst h0; exact putE_ne hk2 hok2 hoj1
        exact e1.trans e2
       have hxl : x2[oj].ln = oln := by rw [hxo2, HXo.out]
       have hpo : plc x2 oid = (oj : Int) := by rw [<- hx2, putE_plc hk1, <- Hx1.out, putE_plc hk2, HJ.out.2.1]; exact HJ.out.1
       have hlb : -1000000 <= oln /\ oln <= 1000000 := by have h1 := Hq.out.ln _ (List.getElem_mem hoj); rw [HXo.out] at h1; simp only at h1; omega
       have hids : x2.map (·.id) = xs.map (·.id) := by rw [<- hx2, putE_ids hk1, <- Hx1.out, putE_ids hk2]
       have Hroot : Hid (∃ x ∈ x2, x.id ≠ oid) := Lib.hid (by obtain ⟨y, hy, hy1⟩ := Hq.out.root; have : y.id ∈ x2.map (·.id) := (by rw [hids]; exact List.mem_map_of_mem hy); obtain ⟨z, hz, h4⟩ := List.mem_map.1 this; exact ⟨z, hz, by rw [h4, hy1, HJ.out.2.1]; exact fun e => HJ.out.2.2 e.symm⟩)
       obtain ⟨Zl, hZl⟩ : ∃ Zl, lessV x2 oj oid (oln - 1) = Zl := ⟨_, rfl⟩
       have HZl := Lib.hid hZl
       have Hxl := Lib.hid hxl
       have Hpo := Lib.hid hpo
       have Hx2 := Lib.hid hx2
       have Hl2 := Lib.hid hl2
       clear hZl hxl hpo hx2 hu2 hl2 hids hxo2 HoLD
       obtain ⟨y_0, y_1⟩ := kY20.g2
       obtain ⟨yf0, yf1⟩ := kY20.f2
       have yl := kY20.lt
       go_upto_region 30 with fail
       clear y_0 y_1 yf0 yf1 yl
       obtain ⟨w21, hw21⟩ : ∃ W, (w20.setCell ⟨py, 0, none⟩ (.int .i64 nx)).setCell ⟨py, 1, none⟩ (.slice (some ⟨gy, 0, none⟩) xs.length cy) = W := ⟨_, rfl⟩
       have kV21 : Blk w21 w.heap.size 26 #[.int .i64 nx, .slice (some ⟨b, of_, none⟩) xs.length c] := by rw [<- hw21]; exact (kV20.far (p := ⟨py, 0, none⟩) (show w.heap.size ≠ py by omega) _).far (p := ⟨py, 1, none⟩) (show w.heap.size ≠ py by omega) _
       have kC21 : Blk w21 (w.heap.size + 1) 95 #[.int .i64 kd, .int .i64 a, .string s, .int .i64 tg, .string nm, .string dt] := by rw [<- hw21]; exact (kC20.far (p := ⟨py, 0, none⟩) (show (w.heap.size + 1) ≠ py by omega) _).far (p := ⟨py, 1, none⟩) (show (w.heap.size + 1) ≠ py by omega) _
       have kI21 : Blk w21 (w.heap.size + 1 + 1) 36 #[.int .i64 xid, .int .i64 xkd, .int .i64 xln, .string xs_, .slice Ax mx cx] := by rw [<- hw21]; exact (kI20.far (p := ⟨py, 0, none⟩) (show (w.heap.size + 1 + 1) ≠ py by omega) _).far (p := ⟨py, 1, none⟩) (show (w.heap.size + 1 + 1) ≠ py by omega) _
       have kX21 : Blk w21 (w.heap.size + 1 + 1 + 1) 26 #[.int .i64 0, .slice none 0 0] := by rw [<- hw21]; exact (kX20.far (p := ⟨py, 0, none⟩) (show (w.heap.size + 1 + 1 + 1) ≠ py by omega) _).far (p := ⟨py, 1, none⟩) (show (w.heap.size + 1 + 1 + 1) ≠ py by omega) _
       have kR21 : Blk w21 (w.heap.size + 1 + 1 + 1 + 1) 54 #[.int .i64 0, .int .i64 0, .string ⟨#[]⟩, .string ⟨#[]⟩] := by rw [<- hw21]; exact (kR20.far (p := ⟨py, 0, none⟩) (show (w.heap.size + 1 + 1 + 1 + 1) ≠ py by omega) _).far (p := ⟨py, 1, none⟩) (show (w.heap.size + 1 + 1 + 1 + 1) ≠ py by omega) _
       have kY21 : Blk w21 py 26 #[.int .i64 nx, .slice (some ⟨gy, 0, none⟩) xs.length cy] := by rw [<- hw21]; exact (kY20.put 0 (.int .i64 nx) _ rfl).put 1 (.slice (some ⟨gy, 0, none⟩) xs.length cy) _ rfl
       have kO21 : Blk w21 aO 36 #[.int .i64 oid, .int .i64 okd, .int .i64 oln, .string os_, .slice Ao mo co] := by rw [<- hw21]; exact (kO20.far (p := ⟨py, 0, none⟩) (show aO ≠ py by omega) _).far (p := ⟨py, 1, none⟩) (show aO ≠ py by omega) _
       have Y21 : Hid (YR w21 w6.heap.size gy cy x2 u2) := Lib.hid (by rw [<- hw21]; exact (hZ20.farV kY20 0 _).farV (kY20.put 0 (.int .i64 nx) #[.int .i64 nx, .slice (some ⟨gy, 0, none⟩) xs.length cy] rfl) 1 _)
       have B21 : Below w.heap.size w w21 := by rw [<- hw21]; exact belC (belC B20 py 0 (by omega) _) py 1 (by omega) _
       rw [hw21]
       clear hw21 hZ20 B20 kV20 kC20 kI20 kX20 kR20 kY20 kO20
       obtain ⟨y_0, y_1⟩ := kY21.g2
       have o_0 := kO21.get 0 rfl
       go_wp2_with fail
       refine (l6Less_n (n := xs.length) w6.heap.size gy cy nx x2 u2 Hl2.out (by omega) oid oj hoj2 oln Hxl.out Hpo.out hlb Hroot.out Zl HZl.out _ Y21.out).mono ?_
       rintro e w22 ⟨g2, c2, rfl, ⟨uz, hz⟩, hg22⟩
       clear y_0 y_1 o_0
       have hgy22 := Y21.out.hi
       have B22 := belG B21 hg22 (by omega)
       have kV22 := blk_gV kV21 hg22 (show w.heap.size ≠ gy by omega)
       have kC22 := blk_gV kC21 hg22 (show (w.heap.size + 1) ≠ gy by omega)
       have kI22 := blk_gV kI21 hg22 (show (w.heap.size + 1 + 1) ≠ gy by omega)
       have kX22 := blk_gV kX21 hg22 (show (w.heap.size + 1 + 1 + 1) ≠ gy by omega)
       have kR22 := blk_gV kR21 hg22 (show (w.heap.size + 1 + 1 + 1 + 1) ≠ gy by omega)
       have kY22 := blk_gV kY21 hg22 (show py ≠ gy by omega)
       have kO22 := blk_gV kO21 hg22 (show aO ≠ gy by omega)
       clear kV21 kC21 kI21 kX21 kR21 kY21 kO21
       obtain ⟨x_0, x_1⟩ := kX22.g2
       obtain ⟨r_0, r_1, r_2, r_3⟩ := kR22.g4
       obtain ⟨xf0, xf1⟩ := kX22.f2
       have xl := kX22.lt
       obtain ⟨rf0, rf1, rf2, rf3⟩ := kR22.f4
       have rl := kR22.lt
       go_wp2
       refine foldBPL ?_
       intro wf hwf
       have YF : YR wf w6.heap.size g2 c2 Zl uz := by
        rw [hwf]
        exact ((hz.farV kX22 0 _).farV (kX22.put 0 (.int .i64 nx) #[.int .i64 nx, .slice none 0 0] rfl) 1 _).far4 ((kR22.far (p := ⟨w.heap.size + 1 + 1 + 1, 0, none⟩) (show w.heap.size + 1 + 1 + 1 + 1 ≠ w.heap.size + 1 + 1 + 1 by omega) _).far (p := ⟨w.heap.size + 1 + 1 + 1, 1, none⟩) (show w.heap.size + 1 + 1 + 1 + 1 ≠ w.heap.size + 1 + 1 + 1 by omega) _) _ _ _ _
       obtain ⟨hX, hR, hB⟩ : Blk wf (w.heap.size + 1 + 1 + 1) 26 #[.int .i64 nx, .slice (some ⟨g2, 0, none⟩) Zl.length c2] /\ Blk wf (w.heap.size + 1 + 1 + 1 + 1) 54 #[.int .i64 0, .int .i64 0, .string ⟨#[]⟩, .string ⟨#[]⟩] /\ Below w.heap.size w wf := by
        rw [hwf]
        first
         | exact two_putL _ _ _ _ _ _ kX22 kR22 (by omega) B22 (by omega) (by omega)
         | exact two_putL _ _ _ _ _ _ kX22.drew kR22.drew (by omega) B22.drew (by omega) (by omega)
       clear hwf x_0 x_1 r_0 r_1 r_2 r_3
       obtain ⟨x_0, x_1⟩ := hX.g2
       obtain ⟨r_0, r_1, r_2, r_3⟩ := hR.g4
       obtain ⟨hm', hun⟩ := QV.replace Hq.out hk2 hi2 Hf2.out hk hi Hf.out (by show xs[k].es[i].d ≠ xs[k2].es[i2].d; rw [Hxd.out, HE2.out]; exact fun e => Hdd.out e.symm) (o := oj) hoj (by show xs[oj].id = xs[k2].es[i2].d; rw [HXo.out, HE2.out]; exact HJ.out.2.1) (by show xs[oj].es = []; rw [HXo.out]; exact Hes.out)
       simp only [Hxd.out, HPR.out, Hx1.out, He2.out, HPD.out, Hx2.out, HXo.out, HZl.out] at hun
       refine bodyPost_ret (v := .tuple #[.agg #[.int .i64 nx, .slice (some ⟨g2, 0, none⟩) Zl.length c2], .agg #[.int .i64 0, .int .i64 0, .string ⟨#[]⟩, .string ⟨#[]⟩]]) (by simp [results, Tryz.results223, go_sem, x_0, x_1, r_0, r_1, r_2, r_3]) rfl ⟨⟨_, ⟨nx, Zl⟩, _, rfl, ⟨_, _, _, _, rfl⟩, hun.mono (by omega), .inr ⟨g2, c2, uz, rfl, YF.more (by omega)⟩⟩, hB⟩

end Go.Proofs.YtjjniapamdleoaaGreatDoor
