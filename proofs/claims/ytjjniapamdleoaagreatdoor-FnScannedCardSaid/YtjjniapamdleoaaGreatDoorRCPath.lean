/- Paths: their names, in both packages. -/
import Derived.Test.YtjjniapamdleoaaGreatDoorRCStrs
import Derived.Test.YtjjniapamdleoaaGreatDoorRCApart
namespace Go.Proofs.YtjjniapamdleoaaGreatDoor
open Go Go.RowKit
set_option maxHeartbeats 8000000
set_option maxRecDepth 100000

/-- A part of a path behind names. -/
def stepP (out : List (List UInt8)) (p : List UInt8) : List (List UInt8) := if p = [] ∨ p = [46] then out else if p = [46, 46] then out.dropLast else out ++ [p]
theorem stepP_len (out : List (List UInt8)) (p : List UInt8) : (stepP out p).length <= out.length + 1 := by
 unfold stepP; split
 ·omega
 ·split
  ·rw [List.length_dropLast]; omega
  ·simp
def pathL (l : List UInt8) : List (List UInt8) := (splitL 47 l).foldl stepP []
/-- The names of a path, and is it one? -/
def spB (s : ByteArray) : List ByteArray × Bool :=
 if inI s.size 1 200 = true /\ s.data.toList.head? = some 47 then (if ((pathL s.data.toList).map str).all nameOkB = true then ((pathL s.data.toList).map str, true) else ([], false)) else ([], false)
theorem foldl_len (ps : List (List UInt8)) : ∀ (out : List (List UInt8)), (ps.foldl stepP out).length <= out.length + ps.length := by
 induction ps with
 | nil => intro out; simp
 | cons p ps ih => intro out; have := ih (stepP out p); have := stepP_len out p; simp only [List.foldl_cons, List.length_cons]; omega
theorem spB_out {s : ByteArray} (h : inI s.size 1 200 = false) : spB s = ([], false) := by unfold spB; rw [if_neg (by simp [h])]
theorem head_at (s : ByteArray) (h : 0 < s.size) : s.data.toList.head? = some s[0] := by
 have := at_drop s 0 h
 rw [List.drop_zero] at this; rw [this]; rfl
theorem spB_head {s : ByteArray} (h : 0 < s.size) (h' : s[0] ≠ 47) : spB s = ([], false) := by unfold spB; rw [if_neg (by rw [head_at s h]; simp [h'])]
theorem spB_in {s : ByteArray} (h : inI s.size 1 200 = true) (h0 : 0 < s.size) (h' : s[0] = 47) : spB s = if ((pathL s.data.toList).map str).all nameOkB = true then ((pathL s.data.toList).map str, true) else ([], false) := by
 unfold spB; rw [if_pos ⟨h, by rw [head_at s h0, h']⟩]
theorem str_nil_iff (p : List UInt8) : (str p).toList.isEmpty = true ↔ p = [] := by rw [ByteArray.toList_eq, str_list]; simp
theorem str_eq_iff (p q : List UInt8) : ((str p).toList == q) = true ↔ p = q := by rw [ByteArray.toList_eq, str_list]; simp
theorem step_skip {out : List (List UInt8)} {p : List UInt8} (h : p = [] ∨ p = [46]) : stepP out p = out := by unfold stepP; rw [if_pos h]
theorem step_up {out : List (List UInt8)} {p : List UInt8} (h : p = [46, 46]) : stepP out p = out.dropLast := by unfold stepP; rw [if_neg (by rw [h]; simp), if_pos h]
theorem step_in {out : List (List UInt8)} {p : List UInt8} (h : p ≠ []) (h1 : p ≠ [46]) (h2 : p ≠ [46, 46]) : stepP out p = out ++ [p] := by unfold stepP; rw [if_neg (by simp [h, h1]), if_neg h2]
theorem fold_take {ps : List (List UInt8)} {k : Nat} (hk : k < ps.length) : (ps.take (k + 1)).foldl stepP [] = stepP ((ps.take k).foldl stepP []) ps[k] := by
 rw [List.take_succ_eq_append_getElem hk, List.foldl_append]; rfl
theorem map_dropLast (l : List (List UInt8)) : SS ((l.dropLast).map str) = (SS (l.map str)).take (l.length - 1) := by
 rw [List.dropLast_eq_take]; simp [SS, List.map_take]
theorem any_bad {l : List ByteArray} {k : Nat} (hk : k < l.length) (h : nameOkB l[k] = false) : l.all nameOkB = false := by
 rw [List.all_eq_false]; exact ⟨_, List.getElem_mem hk, by simp [h]⟩
theorem all_good {l : List ByteArray} (h : ∀ j (hj : j < l.length), nameOkB l[j] = true) : l.all nameOkB = true := by
 rw [List.all_eq_true]
 intro x hx
 obtain ⟨j, hj, rfl⟩ := List.getElem_of_mem hx
 exact h j hj
/-- What SplitPath leaves. -/
def SpPost (w : World) (T : TypeId) (r : List ByteArray × Bool) (e : Ending) (w' : World) : Prop :=
 Below w.heap.size w w' /\ ∃ v, e = .returned (.tuple #[v, .bool r.2]) /\ w'.ownsRow w.heap.size T 1 v r.1.length (SS r.1)
theorem sp_no {w w' : World} {T : TypeId} {r : List ByteArray × Bool} {v : Value} (h : r = ([], false)) (hb : Below w.heap.size w w') (ho : w'.ownsRow w.heap.size T 1 v 0 []) : SpPost w T r (.returned (.tuple #[v, .bool false])) w' := by
 subst h; exact ⟨hb, v, rfl, ho⟩
theorem sp_yes {w w' : World} {T : TypeId} {r : List ByteArray × Bool} {l : List ByteArray} {n : Nat} {v : Value} (h : r = (l, true)) (hn : n = l.length) (hb : Below w.heap.size w w') (ho : w'.ownsRow w.heap.size T 1 v n (SS l)) : SpPost w T r (.returned (.tuple #[v, .bool true])) w' := by
 subst h hn; exact ⟨hb, v, rfl, ho⟩
theorem name_str (l : List (List UInt8)) (k : Nat) (hk : k < l.length) : (l.map str)[k]'(by simpa using hk) = str l[k] := by simp
theorem splitL_size (x : UInt8) : ∀ (l : List UInt8), ∀ p ∈ splitL x l, p.length <= l.length
 | [], p, h => by simp [splitL] at h; subst h; simp
 | b :: l, p, h => by
  rw [splitL] at h
  split at h
  ·rcases List.mem_cons.1 h with rfl | h
   ·simp
   ·have := splitL_size x l p h; simp; omega
  ·cases hs : splitL x l with
   | nil => exact absurd hs (splitL_ne x l)
   | cons q qs =>
    rw [hs] at h
    rcases List.mem_cons.1 h with rfl | h
    ·have := splitL_size x l q (by rw [hs]; simp); simp; omega
    ·have := splitL_size x l p (by rw [hs]; simp [h]); simp; omega
theorem stepP_mem {out : List (List UInt8)} {p q : List UInt8} (h : q ∈ stepP out p) : q ∈ out ∨ q = p := by
 unfold stepP at h; split at h
 ·exact .inl h
 ·split at h
  ·exact .inl (List.dropLast_subset _ h)
  ·simpa using h
theorem foldl_mem : ∀ (ps out : List (List UInt8)) (q : List UInt8), q ∈ ps.foldl stepP out -> q ∈ out ∨ q ∈ ps
 | [], out, q, h => .inl h
 | p :: ps, out, q, h => by
  rcases foldl_mem ps (stepP out p) q h with h | h
  ·rcases stepP_mem h with h | h
   ·exact .inl h
   ·exact .inr (by simp [h])
  ·exact .inr (by simp [h])
theorem pathL_size (l : List UInt8) : ∀ p ∈ pathL l, p.length <= l.length := fun p h => by
 rcases foldl_mem _ _ _ h with h | h
 ·simp at h
 ·exact splitL_size 47 l p h

theorem splitPath_impl (s : ByteArray) (hs : s.size <= 2000000) (w : World) (hT : Tab w) :
  Calls Tryz.prog 25 #[.string s] w (SpPost w 9 (spB s)) := by
 have HT := Lib.hid hT
 clear hT
 rcases hin : inI s.size 1 200 with _ | _
 ·have Hf := Lib.hid (spB_out hin)
  go_enter Tryz.func25, Tryz.ntmps25
  go_wp2_with (go_at_call 67; refine (within_any _ _ _ _).mono ?_; rintro e w' ⟨rfl, rfl⟩)
  go_ret2
  exact sp_no Hf.out (bel0 w) (World.ownsRow_nil _ _ _ _)
 obtain ⟨h1, h200⟩ := inI_true.1 hin
 have hpos : 0 < s.size := by omega
 have hs200 : s.size <= 200 := by omega
 by_cases h0 : s[0] = 47
 rotate_left
 ·have Hf := Lib.hid (spB_head hpos h0)
  have hx : (((s[0]'hpos).toNat : Int) != 47) = true := by
   rw [bne_iff_ne]; intro e; exact h0 (UInt8.toNat_inj.1 (by simpa using (by omega : s[0].toNat = 47)))
  clear h0
  go_enter Tryz.func25, Tryz.ntmps25
  go_wp2_with (go_at_call 67; refine (within_any _ _ _ _).mono ?_; rintro e w' ⟨rfl, rfl⟩)
  go_ret2
  exact sp_no Hf.out (bel0 w) (World.ownsRow_nil _ _ _ _)
 have Hf := Lib.hid (spB_in hin hpos h0)
 have hx : (((s[0]'hpos).toNat : Int) != 47) = false := by rw [h0]; rfl
 clear h0
 go_enter Tryz.func25, Tryz.ntmps25
 go_wp2_with (go_at_call 67; refine (within_any _ _ _ _).mono ?_; rintro e w' ⟨rfl, rfl⟩)
 refine (split_any s 47 hs _).mono ?_
 rintro e w1 ⟨v, rfl, hown, hb1⟩
 have hpl := splitB_len s 47
 have hpp : 0 < (splitB s 47).length := by
  cases h : splitL 47 s.data.toList with
  | nil => exact absurd h (splitL_ne 47 _)
  | cons => simp [splitB, h]
 obtain ⟨gp, cp, rfl⟩ := own_form1 hown hpp
 have hgp := (own_some hown).1
 have b1 := belN (belA (bel0 w) _) hb1
 have hOut := own_below (World.ownsRow_lit (e := 9) (size := 1) w #[] 0 (Nat.le_refl _) (by unfold maxLen; omega) rfl) hb1 (by simp)
 obtain ⟨ps, hps⟩ : ∃ ps, splitL 47 s.data.toList = ps := ⟨_, rfl⟩
 have Hps := Lib.hid hps
 have hsp : splitB s 47 = ps.map str := by rw [splitB, hps]
 rw [hsp] at hown hpl hpp ⊢
 rw [List.length_map] at hown hpl hpp ⊢
 clear hps hsp hx hin
 have Hown := Lib.hid hown
 have HOut := Lib.hid hOut
 clear hown hOut
 go_wp2_with fail
 go_loopw [4, 22] (fun v i wr => ∃ (k g c : Nat) (qs : List (List UInt8)), k <= ps.length /\ qs.length <= k /\ i = .int .i64 k /\ v = .slice (some ⟨g, 0, none⟩) qs.length c /\ g ≠ gp /\ Hid (qs = (ps.take k).foldl stepP []) /\ Hid (wr.ownsRow w.heap.size 9 1 (.slice (some ⟨g, 0, none⟩) qs.length c) qs.length (SS (qs.map str))) /\ Hid (wr.ownsRow (w.alloc (.cells #[] 9)).heap.size 9 1 (.slice (some ⟨gp, 0, none⟩) ps.length cp) ps.length (SS (ps.map str))) /\ Below w.heap.size w wr)
  (fun _ i _ => ps.length - (intOf i).toNat)
 case atStart => exact ⟨0, w.heap.size, 0, [], by omega, by simp, rfl, rfl, by simp at hgp; omega, rfl, HOut.out, Hown.out, b1⟩
 case round =>
  obtain ⟨k, g, c, qs, hk, hqk, rfl, rfl, hne, hq, hout, hparts, hbel⟩ := hrel
  have hsz := hbel.size
  by_cases hlt : k < ps.length
  ·have hc : wr.cell? ⟨gp, k, none⟩ = some (.string (str ps[k])) := by
    rw [hparts.out.cellAt k (by omega), SS_get _ _ (by simpa using hlt)]; simp
   have hft := Lib.hid (fold_take hlt)
   obtain ⟨p, hp⟩ : ∃ p, ps[k] = p := ⟨_, rfl⟩
   rw [hp] at hc hft
   clear hp
   by_cases p1 : p = []
   ·have t1 : (str p).toList.isEmpty = true := (str_nil_iff p).2 p1
    have t1' : (str p).toList = [] := by simpa using t1
    have Hst := Lib.hid (step_skip (out := (ps.take k).foldl stepP []) (.inl p1))
    clear p1
    go_wp2_with fail
    go_roundw
    case rel => exact ⟨k + 1, g, c, qs, by omega, by omega, by go_num, rfl, hne, by show _ = _; rw [hft.out, Hst.out, <- hq.out], hout, hparts, hbel⟩
    case measure => simp [intOf]; omega
   have t1 : (str p).toList.isEmpty = false := by
    cases h : (str p).toList.isEmpty with
    | false => rfl
    | true => exact absurd ((str_nil_iff p).1 h) p1
   have t1' : ¬ (str p).toList = [] := by intro e; rw [e] at t1; cases t1
   by_cases p2 : p = [46]
   ·have t2 : ((str p).toList == [46]) = true := (str_eq_iff p _).2 p2
    have Hst := Lib.hid (step_skip (out := (ps.take k).foldl stepP []) (.inr p2))
    clear p1 p2
    go_wp2_with fail
    go_roundw
    case rel => exact ⟨k + 1, g, c, qs, by omega, by omega, by go_num, rfl, hne, by show _ = _; rw [hft.out, Hst.out, <- hq.out], hout, hparts, hbel⟩
    case measure => simp [intOf]; omega
   have t2 : ((str p).toList == [46]) = false := by
    cases h : ((str p).toList == [46]) with
    | false => rfl
    | true => exact absurd ((str_eq_iff p _).1 h) p2
   by_cases p3 : p = [46, 46]
   ·have t3 : ((str p).toList == [46, 46]) = true := (str_eq_iff p _).2 p3
    have Hst := Lib.hid (step_up (out := (ps.take k).foldl stepP []) p3)
    clear p1 p2 p3
    obtain ⟨_, _, _, hnc, hcm, _, _⟩ := own_some hout.out
    have Hle := Lib.hid (show (if (1 : Int) < (qs.length : Int) then (qs.length : Int) - 1 else 0).toNat = qs.dropLast.length by rw [List.length_dropLast]; split <;> omega)
    have Hpre := Lib.hid (show wr.ownsRow w.heap.size 9 1 (.slice (some ⟨g, 0, none⟩) qs.dropLast.length c) qs.dropLast.length (SS (qs.dropLast.map str)) by
     rw [map_dropLast, List.length_dropLast]; exact own_pre hout.out _ (by omega))
    go_wp2_with fail
    go_roundw
    case rel => exact ⟨k + 1, g, c, qs.dropLast, by omega, by rw [List.length_dropLast]; omega, by go_num, by rw [Hle.out], hne, by show _ = _; rw [hft.out, Hst.out, <- hq.out], Hpre.out, hparts, hbel⟩
    case measure => simp [intOf]; omega
   ·have t3 : ((str p).toList == [46, 46]) = false := by
     cases h : ((str p).toList == [46, 46]) with
     | false => rfl
     | true => exact absurd ((str_eq_iff p _).1 h) p3
    have Hst := Lib.hid (step_in (out := (ps.take k).foldl stepP []) p1 p2 p3)
    clear p1 p2 p3
    go_wp2_with (at_builtin; go_must (refine wpList_app _ rfl _ _ _ rfl Tryz.el_str (hout.out.alloc _) rfl (reads_new _ _ _ _ 1 (by rfl)) rfl (by simp [Value.oneCell']) (max_small (by omega)) (by omega) (by simp; omega) ?_); intro v2 w2 own2 hg2 hat2 hb2; obtain ⟨g2, c2, rfl⟩ := own_form1 own2 (by omega))
    go_roundw
    case rel =>
     refine ⟨k + 1, g2, c2, qs ++ [p], by omega, by simp; omega, by go_num, by simp, ?_, by show _ = _; rw [hft.out, Hst.out, <- hq.out], ?_, ?_, (hbel.alloc hsz _).trans hb2⟩
     ·rcases hat2 with e | e <;> simp [Value.ownBlock] at e
      ·omega
      ·have := World.block_lt_of_cell? _ _ hc; simp at this; omega
     ·show World.ownsRow _ _ _ _ _ _ _
      rw [List.map_append, SS_append, List.length_append]; exact own2
     ·exact ((hparts.out.alloc _).kept hg2 (.inr (by simp [Value.ownBlock]; omega)))
    case measure => simp [intOf]; omega
  ·have Hq := Lib.hid (show qs = pathL s.data.toList by rw [hq.out, List.take_of_length_le (by omega), pathL, Hps.out])
   have hsz4 : ∀ p ∈ qs, p.length <= 200 := fun p hp => by
    have := pathL_size s.data.toList p (by rw [<- Hq.out]; exact hp)
    rw [size_list] at this; omega
   have Hsz := Lib.hid hsz4
   have Hr := Lib.hid (Reads.of_own hout.out)
   clear hsz4 hparts
   have hqn : qs.length <= 100000 := by omega
   go_wp2_with fail
   obtain ⟨wo, hwo⟩ : ∃ wo : World, wo = wr := ⟨_, rfl⟩
   subst hwo
   go_loopw [45] (fun i wr => ∃ (j : Nat), j <= qs.length /\ i = .int .i64 j /\ Hid (∀ m (hm : m < (qs.map str).length), m < j -> nameOkB (qs.map str)[m] = true) /\ Below wo.heap.size wo wr)
    (fun i _ => qs.length - (intOf i).toNat)
   case atStart => exact ⟨0, by omega, rfl, fun m _ hm => by omega, bel0 wo⟩
   case round =>
    obtain ⟨j, hj, rfl, hno, hbel2⟩ := hrel
    by_cases hlt2 : j < qs.length
    ·obtain ⟨hkx, ad, had, hadb, hcell⟩ := reads_str (Hr.out.below hbel2) hlt2
     simp only [Option.some.injEq] at had
     subst had
     have hcell' : wr.cell? ⟨g, j, none⟩ = some (.string (qs.map str)[j]) := by
      have ha : (⟨g, 0, none⟩ : Addr).add j = ⟨g, j, none⟩ := by unfold Addr.add; split <;> simp_all
      rw [<- ha]; exact hcell
     have hsize : ((qs.map str)[j]'hkx).size <= 2000000 := by
      rw [name_str qs j hlt2, str_size]
      have := Hsz.out qs[j] (List.getElem_mem hlt2); omega
     clear hcell
     rcases hkn : nameOkB (qs.map str)[j] with _ | _
     ·have Hno := Lib.hid (any_bad hkx hkn)
      obtain ⟨t, ht⟩ : ∃ t, (qs.map str)[j] = t := ⟨_, rfl⟩
      rw [ht] at hcell' hsize hkn
      clear ht
      go_wp2_with (go_at_call 69; refine (nameOk_impl _ hsize _ ((HT.out.bl hbel).below hbel2 (by omega))).mono ?_; rintro e w2 ⟨rfl, hb2⟩)
      go_ret2
      exact sp_no (by rw [Hf.out, <- Hq.out, if_neg (by rw [Hno.out]; simp)]) (belN (hbel.trans (hbel2.mono hbel.size)) hb2) (World.ownsRow_nil _ _ _ _)
     ·have Hkn := Lib.hid hkn
      obtain ⟨t, ht⟩ : ∃ t, (qs.map str)[j] = t := ⟨_, rfl⟩
      rw [ht] at hcell' hsize hkn
      clear ht
      go_wp2_with (go_at_call 69; refine (nameOk_impl _ hsize _ ((HT.out.bl hbel).below hbel2 (by omega))).mono ?_; rintro e w2 ⟨rfl, hb2⟩)
      go_roundw
      case rel => exact ⟨j + 1, by omega, by go_num, fun m hm hmj => by
       rcases Nat.lt_or_ge m j with h1 | h1
       ·exact hno.out m hm h1
       ·obtain rfl : m = j := by omega
        exact Hkn.out, belN hbel2 hb2⟩
      case measure => simp [intOf]; omega
    ·have Hall := Lib.hid (all_good (fun m hm => hno.out m hm (by simp at hm; omega)))
     go_wp2
     go_ret2
     exact sp_yes (by rw [Hf.out, <- Hq.out, if_pos Hall.out]) (by simp) (hbel.trans (hbel2.mono hbel.size)) (own_below hout.out hbel2 (Nat.le_refl _))

/-- What is left to do of a path. -/
def restP (l : List UInt8) (k f : Nat) (qs : List (List UInt8)) : List (List UInt8) := if k <= l.length then (glue ((l.take k).drop f) (splitL 47 (l.drop k))).foldl stepP qs else qs
theorem restP_out {l : List UInt8} {k f : Nat} {qs : List (List UInt8)} (h : l.length < k) : restP l k f qs = qs := by unfold restP; rw [if_neg (by omega)]
theorem restP_start (s : ByteArray) (h : 0 < s.size) (h47 : s[0] = 47) : pathL s.data.toList = restP s.data.toList 1 1 [] := by
 have h1 := at_drop s 0 h
 rw [List.drop_zero, h47] at h1
 unfold restP
 rw [if_pos (by rw [size_list]; omega), show (s.data.toList.take 1).drop 1 = [] from take_drop_self s 1, glue_nil, pathL]
 conv => lhs; rw [h1]
 rw [splitL, if_pos rfl]
 rfl
theorem restP_miss (s : ByteArray) (k f : Nat) (qs : List (List UInt8)) (h : k < s.size) (hf : f <= k) (hx : s[k] ≠ 47) : restP s.data.toList k f qs = restP s.data.toList (k + 1) f qs := by
 unfold restP
 rw [if_pos (by rw [size_list]; omega), if_pos (by rw [size_list]; omega), at_drop s k h, glue_miss _ _ hx, take_drop_snoc s f k hf h]
theorem restP_hit (s : ByteArray) (k f : Nat) (qs : List (List UInt8)) (h : k < s.size) (hx : s[k] = 47) : restP s.data.toList k f qs = restP s.data.toList (k + 1) (k + 1) (stepP qs ((s.data.toList.take k).drop f)) := by
 unfold restP
 rw [if_pos (by rw [size_list]; omega), if_pos (by rw [size_list]; omega), at_drop s k h, hx, glue_hit, take_drop_self, glue_nil]
 rfl
theorem restP_end (s : ByteArray) (k f : Nat) (qs : List (List UInt8)) (h : k = s.size) : restP s.data.toList k f qs = restP s.data.toList (k + 1) (k + 1) (stepP qs ((s.data.toList.take k).drop f)) := by
 unfold restP
 rw [if_pos (by rw [size_list]; omega), if_neg (by rw [size_list]; omega), show s.data.toList.drop k = [] from List.drop_eq_nil_of_le (by rw [size_list]; omega), glue_end]
 rfl
theorem restP_size (s : ByteArray) (qs : List (List UInt8)) (k f : Nat) (h : pathL s.data.toList = restP s.data.toList k f qs) (hk : s.size < k) : qs = pathL s.data.toList := by rw [h, restP_out (by rw [size_list]; exact hk)]

theorem splitPath_spec (s : ByteArray) (hs : s.size <= 2000000) (w : World) :
  Calls Tryz.prog 26 #[.string s] w (SpPost w 9 (spB s)) := by
 rcases hin : inI s.size 1 200 with _ | _
 ·have Hf := Lib.hid (spB_out hin)
  go_enter Tryz.func26, Tryz.ntmps26
  go_wp2_with (go_at_call 56; refine (l1In_any _ _ _ _).mono ?_; rintro e w' ⟨rfl, rfl⟩)
  go_ret2
  exact sp_no Hf.out (belA (bel0 w) _) (World.ownsRow_lit w #[] 0 (Nat.le_refl _) (by unfold maxLen; omega) rfl)
 obtain ⟨h1, h200⟩ := inI_true.1 hin
 have hpos : 0 < s.size := by omega
 have hs200 : s.size <= 200 := by omega
 by_cases h0 : s[0] = 47
 rotate_left
 ·have Hf := Lib.hid (spB_head hpos h0)
  have hx : (((s[0]'hpos).toNat : Int) != 47) = true := by
   rw [bne_iff_ne]; intro e; exact h0 (UInt8.toNat_inj.1 (by simpa using (by omega : s[0].toNat = 47)))
  clear h0
  go_enter Tryz.func26, Tryz.ntmps26
  go_wp2_with (go_at_call 56; refine (l1In_any _ _ _ _).mono ?_; rintro e w' ⟨rfl, rfl⟩)
  go_ret2
  exact sp_no Hf.out (belA (bel0 w) _) (World.ownsRow_lit w #[] 0 (Nat.le_refl _) (by unfold maxLen; omega) rfl)
 have Hf := Lib.hid (spB_in hin hpos h0)
 have Hst0 := Lib.hid (restP_start s hpos h0)
 have hx : (((s[0]'hpos).toNat : Int) != 47) = false := by rw [h0]; rfl
 clear h0
 go_enter Tryz.func26, Tryz.ntmps26
 go_wp2_with (go_at_call 56; refine (l1In_any _ _ _ _).mono ?_; rintro e w' ⟨rfl, rfl⟩)
 clear hx hin
 go_loopw [4, 5, 6] (fun v fr i wr => ∃ (k f g c : Nat) (qs : List (List UInt8)), 1 <= k /\ k <= s.size + 1 /\ f <= k /\ qs.length <= k /\ i = .int .i64 k /\ fr = .int .i64 f /\ v = .slice (some ⟨g, 0, none⟩) qs.length c /\ Hid (pathL s.data.toList = restP s.data.toList k f qs) /\ Hid (wr.ownsRow w.heap.size 9 1 (.slice (some ⟨g, 0, none⟩) qs.length c) qs.length (SS (qs.map str))) /\ Below w.heap.size w wr)
  (fun _ _ i _ => s.size + 1 - (intOf i).toNat)
 case atStart => exact ⟨1, 1, w.heap.size, 0, [], by omega, by omega, by omega, by simp, rfl, rfl, rfl, Hst0.out, World.ownsRow_lit w #[] 0 (Nat.le_refl _) (by unfold maxLen; omega) rfl, belA (bel0 w) _⟩
 case round =>
  obtain ⟨k, f, g, c, qs, hk1, hk, hf, hqk, rfl, rfl, rfl, hq, hout, hbel⟩ := hrel
  have hsz := hbel.size
  by_cases hlt : k <= s.size
  ·have hst := sub_str s f k
   have p0 : (0 : Int) <= ↑f := by omega
   have p1 : (f : Int) <= ↑k := by omega
   have p2 : (k : Int) <= ↑s.size := by omega
   have hstep : (k < s.size /\ ∀ h : k < s.size, s[k] = 47) ∨ k = s.size ∨ (k < s.size /\ ∀ h : k < s.size, s[k] ≠ 47) := by
    by_cases h : k < s.size
    ·by_cases h' : s[k] = 47
     ·exact .inl ⟨h, fun _ => h'⟩
     ·exact .inr (.inr ⟨h, fun _ => h'⟩)
    ·exact .inr (.inl (by omega))
   rcases hstep with ⟨hks, hx⟩ | hks | ⟨hks, hx⟩
   ·have hx47 := hx hks
    have HR := Lib.hid (hq.out.trans (restP_hit s k f qs hks hx47))
    have hxb : (((s[k]'hks).toNat : Int) != 47) = false := by rw [hx47]; rfl
    clear hx hx47
    obtain ⟨p, hp⟩ : ∃ p, (s.data.toList.take k).drop f = p := ⟨_, rfl⟩
    rw [hp] at hst HR
    clear hp
    by_cases x1 : p = []
    ·have t1 : (str p).toList.isEmpty = true := (str_nil_iff p).2 x1
     have t1' : (str p).toList = [] := by simpa using t1
     have Hst := Lib.hid (step_skip (out := qs) (.inl x1))
     clear x1
     go_wp2_with fail
     go_roundw
     case rel => exact ⟨k + 1, k + 1, g, c, qs, by omega, by omega, by omega, by omega, by go_num, by go_num, rfl, by rw [Hst.out] at HR; exact HR.out, hout, hbel⟩
     case measure => simp [intOf]; omega
    have t1 : (str p).toList.isEmpty = false := by
     cases h : (str p).toList.isEmpty with
     | false => rfl
     | true => exact absurd ((str_nil_iff p).1 h) x1
    have t1' : ¬ (str p).toList = [] := by intro e; rw [e] at t1; cases t1
    by_cases x2 : p = [46]
    ·have t2 : ((str p).toList == [46]) = true := (str_eq_iff p _).2 x2
     have Hst := Lib.hid (step_skip (out := qs) (.inr x2))
     clear x1 x2
     go_wp2_with fail
     go_roundw
     case rel => exact ⟨k + 1, k + 1, g, c, qs, by omega, by omega, by omega, by omega, by go_num, by go_num, rfl, by rw [Hst.out] at HR; exact HR.out, hout, hbel⟩
     case measure => simp [intOf]; omega
    have t2 : ((str p).toList == [46]) = false := by
     cases h : ((str p).toList == [46]) with
     | false => rfl
     | true => exact absurd ((str_eq_iff p _).1 h) x2
    by_cases x3 : p = [46, 46]
    ·have t3 : ((str p).toList == [46, 46]) = true := (str_eq_iff p _).2 x3
     have Hst := Lib.hid (step_up (out := qs) x3)
     clear x1 x2 x3
     obtain ⟨_, _, _, hnc, hcm, _, _⟩ := own_some hout.out
     by_cases hz : 0 < qs.length
     ·have Hpre := Lib.hid (show wr.ownsRow w.heap.size 9 1 (.slice (some ⟨g, 0, none⟩) qs.dropLast.length c) qs.dropLast.length (SS (qs.dropLast.map str)) by
       rw [map_dropLast, List.length_dropLast]; exact own_pre hout.out _ (by omega))
      go_wp2_with fail
      go_roundw
      case rel => exact ⟨k + 1, k + 1, g, c, qs.dropLast, by omega, by omega, by omega, by rw [List.length_dropLast]; omega, by go_num, by go_num, by rw [List.length_dropLast], by rw [Hst.out] at HR; exact HR.out, Hpre.out, hbel⟩
      case measure => simp [intOf]; omega
     ·have Hqe := Lib.hid (show qs.dropLast = qs by rw [List.eq_nil_of_length_eq_zero (show qs.length = 0 by omega)]; rfl)
      go_wp2_with fail
      go_roundw
      case rel => exact ⟨k + 1, k + 1, g, c, qs, by omega, by omega, by omega, by omega, by go_num, by go_num, rfl, by rw [Hst.out, Hqe.out] at HR; exact HR.out, hout, hbel⟩
      case measure => simp [intOf]; omega
    ·have t3 : ((str p).toList == [46, 46]) = false := by
      cases h : ((str p).toList == [46, 46]) with
      | false => rfl
      | true => exact absurd ((str_eq_iff p _).1 h) x3
     have Hst := Lib.hid (step_in (out := qs) x1 x2 x3)
     clear x1 x2 x3
     go_wp2_with (at_builtin; go_must (refine wpList_app _ rfl _ _ _ rfl Tryz.el_str (hout.out.alloc _) rfl (reads_new _ _ _ _ 1 (by rfl)) rfl (by simp [Value.oneCell']) (max_small (by omega)) (by omega) (by simp; omega) ?_); intro v2 w2 own2 hg2 hat2 hb2; obtain ⟨g2, c2, rfl⟩ := own_form1 own2 (by omega))
     go_roundw
     case rel =>
      refine ⟨k + 1, k + 1, g2, c2, qs ++ [p], by omega, by omega, by omega, by simp; omega, by go_num, by go_num, by simp, by rw [Hst.out] at HR; exact HR.out, ?_, (hbel.alloc hsz _).trans hb2⟩
      show World.ownsRow _ _ _ _ _ _ _
      rw [List.map_append, SS_append, List.length_append]; exact own2
     case measure => simp [intOf]; omega
   ·have HR := Lib.hid (hq.out.trans (restP_end s k f qs hks))
    have hnk : ¬ (k : Int) < ↑s.size := by omega
    clear hks
    obtain ⟨p, hp⟩ : ∃ p, (s.data.toList.take k).drop f = p := ⟨_, rfl⟩
    rw [hp] at hst HR
    clear hp
    by_cases x1 : p = []
    ·have t1 : (str p).toList.isEmpty = true := (str_nil_iff p).2 x1
     have t1' : (str p).toList = [] := by simpa using t1
     have Hst := Lib.hid (step_skip (out := qs) (.inl x1))
     clear x1
     go_wp2_with fail
     go_roundw
     case rel => exact ⟨k + 1, k + 1, g, c, qs, by omega, by omega, by omega, by omega, by go_num, by go_num, rfl, by rw [Hst.out] at HR; exact HR.out, hout, hbel⟩
     case measure => simp [intOf]; omega
    have t1 : (str p).toList.isEmpty = false := by
     cases h : (str p).toList.isEmpty with
     | false => rfl
     | true => exact absurd ((str_nil_iff p).1 h) x1
    have t1' : ¬ (str p).toList = [] := by intro e; rw [e] at t1; cases t1
    by_cases x2 : p = [46]
    ·have t2 : ((str p).toList == [46]) = true := (str_eq_iff p _).2 x2
     have Hst := Lib.hid (step_skip (out := qs) (.inr x2))
     clear x1 x2
     go_wp2_with fail
     go_roundw
     case rel => exact ⟨k + 1, k + 1, g, c, qs, by omega, by omega, by omega, by omega, by go_num, by go_num, rfl, by rw [Hst.out] at HR; exact HR.out, hout, hbel⟩
     case measure => simp [intOf]; omega
    have t2 : ((str p).toList == [46]) = false := by
     cases h : ((str p).toList == [46]) with
     | false => rfl
     | true => exact absurd ((str_eq_iff p _).1 h) x2
    by_cases x3 : p = [46, 46]
    ·have t3 : ((str p).toList == [46, 46]) = true := (str_eq_iff p _).2 x3
     have Hst := Lib.hid (step_up (out := qs) x3)
     clear x1 x2 x3
     obtain ⟨_, _, _, hnc, hcm, _, _⟩ := own_some hout.out
     by_cases hz : 0 < qs.length
     ·have Hpre := Lib.hid (show wr.ownsRow w.heap.size 9 1 (.slice (some ⟨g, 0, none⟩) qs.dropLast.length c) qs.dropLast.length (SS (qs.dropLast.map str)) by
       rw [map_dropLast, List.length_dropLast]; exact own_pre hout.out _ (by omega))
      go_wp2_with fail
      go_roundw
      case rel => exact ⟨k + 1, k + 1, g, c, qs.dropLast, by omega, by omega, by omega, by rw [List.length_dropLast]; omega, by go_num, by go_num, by rw [List.length_dropLast], by rw [Hst.out] at HR; exact HR.out, Hpre.out, hbel⟩
      case measure => simp [intOf]; omega
     ·have Hqe := Lib.hid (show qs.dropLast = qs by rw [List.eq_nil_of_length_eq_zero (show qs.length = 0 by omega)]; rfl)
      go_wp2_with fail
      go_roundw
      case rel => exact ⟨k + 1, k + 1, g, c, qs, by omega, by omega, by omega, by omega, by go_num, by go_num, rfl, by rw [Hst.out, Hqe.out] at HR; exact HR.out, hout, hbel⟩
      case measure => simp [intOf]; omega
    ·have t3 : ((str p).toList == [46, 46]) = false := by
      cases h : ((str p).toList == [46, 46]) with
      | false => rfl
      | true => exact absurd ((str_eq_iff p _).1 h) x3
     have Hst := Lib.hid (step_in (out := qs) x1 x2 x3)
     clear x1 x2 x3
     go_wp2_with (at_builtin; go_must (refine wpList_app _ rfl _ _ _ rfl Tryz.el_str (hout.out.alloc _) rfl (reads_new _ _ _ _ 1 (by rfl)) rfl (by simp [Value.oneCell']) (max_small (by omega)) (by omega) (by simp; omega) ?_); intro v2 w2 own2 hg2 hat2 hb2; obtain ⟨g2, c2, rfl⟩ := own_form1 own2 (by omega))
     go_roundw
     case rel =>
      refine ⟨k + 1, k + 1, g2, c2, qs ++ [p], by omega, by omega, by omega, by simp; omega, by go_num, by go_num, by simp, by rw [Hst.out] at HR; exact HR.out, ?_, (hbel.alloc hsz _).trans hb2⟩
      show World.ownsRow _ _ _ _ _ _ _
      rw [List.map_append, SS_append, List.length_append]; exact own2
     case measure => simp [intOf]; omega
   ·have hx47 := hx hks
    have HR := Lib.hid (hq.out.trans (restP_miss s k f qs hks hf hx47))
    have hxb : (((s[k]'hks).toNat : Int) != 47) = true := by
     rw [bne_iff_ne]; intro e; exact hx47 (UInt8.toNat_inj.1 (by simpa using (by omega : s[k].toNat = 47)))
    clear hx hx47 hst
    go_wp2_with fail
    go_roundw
    case rel => exact ⟨k + 1, f, g, c, qs, by omega, by omega, by omega, by omega, by go_num, rfl, rfl, HR.out, hout, hbel⟩
    case measure => simp [intOf]; omega
  ·have Hq := Lib.hid (restP_size s qs k f hq.out (by omega))
   have hsz4 : ∀ p ∈ qs, p.length <= 200 := fun p hp => by
    have := pathL_size s.data.toList p (by rw [<- Hq.out]; exact hp)
    rw [size_list] at this; omega
   have Hsz := Lib.hid hsz4
   have Hr := Lib.hid (Reads.of_own hout.out)
   clear hsz4
   have hqn : qs.length <= 100000 := by omega
   go_wp2_with fail
   obtain ⟨wo, hwo⟩ : ∃ wo : World, wo = wr := ⟨_, rfl⟩
   subst hwo
   go_loopw [8] (fun i wr => ∃ (j : Nat), j <= qs.length /\ i = .int .i64 j /\ Hid (∀ m (hm : m < (qs.map str).length), m < j -> nameOkB (qs.map str)[m] = true) /\ Below wo.heap.size wo wr)
    (fun i _ => qs.length - (intOf i).toNat)
   case atStart => exact ⟨0, by omega, rfl, fun m _ hm => by omega, bel0 wo⟩
   case round =>
    obtain ⟨j, hj, rfl, hno, hbel2⟩ := hrel
    by_cases hlt2 : j < qs.length
    ·obtain ⟨hkx, ad, had, hadb, hcell⟩ := reads_str (Hr.out.below hbel2) hlt2
     simp only [Option.some.injEq] at had
     subst had
     have hcell' : wr.cell? ⟨g, j, none⟩ = some (.string (qs.map str)[j]) := by
      have ha : (⟨g, 0, none⟩ : Addr).add j = ⟨g, j, none⟩ := by unfold Addr.add; split <;> simp_all
      rw [<- ha]; exact hcell
     have hsize : ((qs.map str)[j]'hkx).size <= 2000000 := by
      rw [name_str qs j hlt2, str_size]
      have := Hsz.out qs[j] (List.getElem_mem hlt2); omega
     clear hcell
     rcases hkn : nameOkB (qs.map str)[j] with _ | _
     ·have Hno := Lib.hid (any_bad hkx hkn)
      obtain ⟨t, ht⟩ : ∃ t, (qs.map str)[j] = t := ⟨_, rfl⟩
      rw [ht] at hcell' hsize hkn
      clear ht
      go_wp2_with (go_at_call 70; refine (nameOk_spec _ hsize _).mono ?_; rintro e w2 ⟨rfl, hb2⟩)
      go_ret2
      have hb3 := belN (hbel.trans (hbel2.mono hbel.size)) hb2
      exact sp_no (by rw [Hf.out, <- Hq.out, if_neg (by rw [Hno.out]; simp)]) (belA hb3 _) (World.ownsRow_lit w2 #[] 0 hb3.size (by unfold maxLen; omega) rfl)
     ·have Hkn := Lib.hid hkn
      obtain ⟨t, ht⟩ : ∃ t, (qs.map str)[j] = t := ⟨_, rfl⟩
      rw [ht] at hcell' hsize hkn
      clear ht
      go_wp2_with (go_at_call 70; refine (nameOk_spec _ hsize _).mono ?_; rintro e w2 ⟨rfl, hb2⟩)
      go_roundw
      case rel => exact ⟨j + 1, by omega, by go_num, fun m hm hmj => by
       rcases Nat.lt_or_ge m j with h1 | h1
       ·exact hno.out m hm h1
       ·obtain rfl : m = j := by omega
        exact Hkn.out, belN hbel2 hb2⟩
      case measure => simp [intOf]; omega
    ·have Hall := Lib.hid (all_good (fun m hm => hno.out m hm (by simp at hm; omega)))
     go_wp2
     go_ret2
     exact sp_yes (by rw [Hf.out, <- Hq.out, if_pos Hall.out]) (by simp) (hbel.trans (hbel2.mono hbel.size)) (own_below hout.out hbel2 (Nat.le_refl _))

end Go.Proofs.YtjjniapamdleoaaGreatDoor
