/- All that is below a directory, in both packages. -/
import Derived.Test.YtjjniapamdleoaaGreatDoorRCPts
import Derived.Test.YtjjniapamdleoaaGreatDoorRCChg
import Derived.Test.YtjjniapamdleoaaGreatDoorRCVolA
namespace Go.Proofs.YtjjniapamdleoaaGreatDoor
open Go Go.RowKit
set_option maxHeartbeats 8000000
set_option maxRecDepth 100000

/-- The last so many cells of a row of a call's own. -/
def OwnTail (w : World) (base : Nat) (e : TypeId) (g o n c : Nat) (xs : List Value) : Prop :=
 xs.length = n /\ ∃ cur : Array Value, base <= g /\ w.heap[g]? = some (.cells cur e (0, 0)) /\ n <= c /\ c <= maxLen /\ o + c <= cur.size /\ (cur.toList.drop o).take n = xs
section
variable {w w' : World} {base g o n c : Nat} {e : TypeId} {xs : List Value}
theorem OwnTail.of_own (h : w.ownsRow base e 1 (.slice (some ⟨g, 0, none⟩) n c) n xs) : OwnTail w base e g 0 n c xs := by
 obtain ⟨hb, cur, hg, hn, hc, hs, ht⟩ := own_some h
 exact ⟨by have := h.1; omega, cur, hb, hg, hn, hc, by omega, by simpa using ht⟩
theorem OwnTail.lt (h : OwnTail w base e g o n c xs) : base <= g /\ g < w.heap.size := by
 obtain ⟨_, cur, hb, hg, _⟩ := h
 exact ⟨hb, (Array.getElem?_eq_some_iff.1 hg).1⟩
theorem OwnTail.same (h : OwnTail w base e g o n c xs) (hg : w'.heap[g]? = w.heap[g]?) : OwnTail w' base e g o n c xs := by
 obtain ⟨h1, cur, hb, hh, r⟩ := h
 exact ⟨h1, cur, hb, hg.trans hh, r⟩
theorem OwnTail.below (h : OwnTail w base e g o n c xs) (hb : Below w.heap.size w w') : OwnTail w' base e g o n c xs := h.same (hb.block g h.lt.2)
theorem OwnTail.kept (h : OwnTail w base e g o n c xs) {row : Option Nat} (hg : w.grownBy w' row) (hne : some g ≠ row) : OwnTail w' base e g o n c xs := h.same (hg.block g h.lt.2 hne)
theorem OwnTail.alloc (h : OwnTail w base e g o n c xs) (ob : Obj) : OwnTail (w.alloc ob) base e g o n c xs := h.same (Below.heap_alloc w ob g h.lt.2)
theorem OwnTail.cells (h : OwnTail w base e g o n c xs) : ∀ j u, xs[j]? = some u -> w.cell? ⟨g, o + j, none⟩ = some u := by
 obtain ⟨h1, cur, hb, hh, _, _, hs, ht⟩ := h
 intro j u hu
 rw [cell_of_row w g (o + j) cur e (0, 0) hh]
 rw [<- ht, List.getElem?_take] at hu
 split at hu
 ·rw [List.getElem?_drop] at hu; simpa using hu
 ·cases hu
theorem OwnTail.tl {x : Value} (h : OwnTail w base e g o n c (x :: xs)) : OwnTail w base e g (o + 1) (n - 1) (c - 1) xs := by
 obtain ⟨h1, cur, hb, hh, hn, hc, hs, ht⟩ := h
 rw [List.length_cons] at h1
 refine ⟨by omega, cur, hb, hh, by omega, by omega, by omega, ?_⟩
 have h2 : ((cur.toList.drop o).take n).drop 1 = xs := by rw [ht]; rfl
 rw [<- h2, List.drop_take, List.drop_drop]
theorem OwnTail.shut {x : Value} (h : OwnTail w base e g o n 1 (x :: xs)) : xs = [] /\ OwnTail w base e g o 0 0 [] := by
 obtain ⟨h1, cur, hb, hh, hn, hc, hs, ht⟩ := h
 rw [List.length_cons] at h1
 exact ⟨List.eq_nil_of_length_eq_zero (by omega), rfl, cur, hb, hh, Nat.le_refl _, by omega, by omega, by simp⟩
end

section
variable {P : Program} (w : World)
theorem run_append_tail (t ty e : TypeId) {z : Value} {bytes : Nat} (hE : ElemOk P t e z 1 bytes) {base g o n c : Nat} {xs : List Value} (hown : OwnTail w base e g o n c xs)
  {B : Nat} {A : Option Addr} {m k : Nat} {news : List Value} (hr : Reads w B 1 A m news) (hm : 0 < m) (h1 : ∀ u ∈ news, u.oneCell' = true)
  (h63 : n + m <= maxLen) (hbytes : (n + m) * bytes <= 140737488355328) (hbase : base <= w.heap.size) :
  ∃ g' o' c' w', (Builtin.append_ #[t, t] ty #[.slice (some ⟨g, o, none⟩) n c, .slice A m k]).run P w = .ok (.slice (some ⟨g', o', none⟩) (n + m) c') w' /\ OwnTail w' base e g' o' (n + m) c' (xs ++ news) /\ w.grownBy w' (some g) /\ (g' = g ∨ g' = w.heap.size) := by
 obtain ⟨i, hi, hz, hsize, hby⟩ := info_parts hE.hi
 obtain ⟨a, rfl, _, hnews⟩ := hr.2 hm
 have hl : news.length = m * i.size := by rw [hsize]; exact hr.1
 obtain ⟨hxl, cur, hb, hg, hnc, hcm, hos, htake⟩ := hown
 by_cases hroom : n + m <= c
 ·have hf := run_firstCells_some (P := P) w i.size m a m k news hl hnews
  rw [hsize] at hf
  have hst := run_storeCells_at P g (o + n) e news 0 cur w hg (by rw [hl, hsize]; omega) h1
  simp only [Nat.add_zero] at hst
  refine ⟨g, o, c, w.setRow g (cur.toList.take (o + n) ++ news ++ cur.toList.drop (o + n + news.length)).toArray, ?_, ⟨?_, _, hb, setRow_heap w g cur _ e _ hg, hroom, hcm, ?_, ?_⟩, ⟨rfl, rfl, rfl, by simp, fun j _ hj => setRow_other w g j _ (fun e => hj (by rw [e]))⟩, .inl rfl⟩
  ·simp [Builtin.append_, run_underlying hE.ht, sizeOf, typeInfo, hi, Builtin.lenOf, hroom, hf, hsize, Addr.add_lit, hst]
  ·rw [List.length_append, hxl, hl, hsize]; omega
  ·have hml : news.length = m := by rw [hl, hsize]; omega
   simp only [List.size_toArray, List.length_append, List.length_take, List.length_drop, Array.length_toList]
   omega
  ·have hml : news.length = m := by rw [hl, hsize]; omega
   have h2 : (cur.toList.take (o + n)).drop o = xs := by rw [List.drop_take, Nat.add_sub_cancel_left]; exact htake
   rw [List.append_assoc, List.drop_append_of_le_length (by rw [List.length_take, Array.length_toList]; omega), h2, <- List.append_assoc,
    List.take_append_of_le_length (by rw [List.length_append]; omega), List.take_of_length_le (by rw [List.length_append]; omega)]
 ·have holds : ∀ j u, xs[j]? = some u -> w.cell? ((⟨g, o, none⟩ : Addr).add j) = some u := by
   intro j u hu
   rw [Addr.add_lit]
   exact OwnTail.cells (w := w) (base := base) (e := e) (c := c) ⟨hxl, cur, hb, hg, hnc, hcm, hos, htake⟩ j u hu
  have hsmall : n + m <= 9223372036854775807 := by simp only [maxLen] at h63; omega
  have hr := run_append_grow (P := P) w t ty e i z hE.ht hi hz ⟨g, o, none⟩ n c xs (by rw [hsize, hxl]; omega) holds a m k news hl hnews (by omega) (by omega) (growslice_fits (by omega) (by rw [hby]; exact hbytes))
  have hge := grownCap_ge w (n + m) c e
  have hcm2 : grownCap w (n + m) c e <= maxLen := grownCap_le_maxLen w (n + m) c e h63
  refine ⟨w.heap.size, 0, _, _, hr, ⟨by rw [List.length_append, hxl, hl, hsize]; omega, _, hbase, heap_alloc_new w.drew _, hge, hcm2, ?_, ?_⟩, ⟨rfl, rfl, rfl, by simp, fun j hj _ => heap_alloc_old w.drew _ hj⟩, .inr rfl⟩
  ·simp only [Array.size_append, List.size_toArray, size_zeroCells, hE.hzs, hxl, hl, hsize]
   omega
  ·have : n + m = (xs ++ news).length := by rw [List.length_append, hxl, hl, hsize]; omega
   simp only [Array.toList_append, List.append_assoc, List.drop_zero]
   rw [<- List.append_assoc, this]
   exact List.take_left

theorem wpList_app_tail {ops : Array Oper} {rest : List Oper} {o : Oper} {a : Act} {Q : Exit -> Act -> World -> Prop} (hgd : o.guard = none) (s x : Operand) (t : TypeId)
  (ho : o.op = .call { callee := .builtin .append, args := #[s, x], argTypes := #[t, t] })
  {e : TypeId} {z : Value} {bytes : Nat} (hE : ElemOk P t e z 1 bytes)
  {base g off n c : Nat} {xs : List Value} (hown : OwnTail w base e g off n c xs) (hs : a.eval s = .slice (some ⟨g, off, none⟩) n c)
  {B : Nat} {A : Option Addr} {m k : Nat} {news : List Value} (hr : Reads w B 1 A m news) (hm : 0 < m) (hx : a.eval x = .slice A m k) (h1 : ∀ u ∈ news, u.oneCell' = true)
  (h63 : n + m <= maxLen) (hbytes : (n + m) * bytes <= 140737488355328) (hbase : base <= w.heap.size)
  (h : ∀ g' o' c' w', OwnTail w' base e g' o' (n + m) c' (xs ++ news) -> w.grownBy w' (some g) -> (g' = g ∨ g' = w.heap.size) -> Below base w w' -> wpList P ops Q rest (a.put o.dst (.slice (some ⟨g', o', none⟩) (n + m) c')) w') : wpList P ops Q (o :: rest) a w := by
 refine wpList_plain hgd fun K hK => ?_
 obtain ⟨g', o', c', w', hr2, h2, h3, h4⟩ := run_append_tail (P := P) w t o.type e (k := k) hE hown hr hm h1 h63 hbytes hbase
 unfold Oper.wp execOp
 simp only [ho, resolve, invoke, builtin, Sem.run_bind, Sem.run_pure, Result.andThen_ok, List.map_toArray, List.map_cons, List.map_nil, hs, hx, hr2]

 exact hK _ _ (h g' o' c' w' h2 h3 h4 ((Below.refl _ _).grown h3 hbase fun k hk => by injection hk with hk; rw [<- hk]; exact hown.lt.1))
end

def lenV : Value -> Nat
 | .slice _ n _ => n
 | _ => 0
theorem containsI_any (A : Option Addr) (n c : Nat) (xs : List Int) (q : Int) (hn : n <= 10000000) (w : World) (hr : Reads w w.heap.size 1 A n (II xs)) :
  Calls Tryz.prog 91 #[.slice A n c, .int .i64 q] w fun e w' => e = .returned (.bool (decide (q ∈ xs))) /\ Below w.heap.size w w' := by
 have Hr := Lib.hid hr
 clear hr
 go_enter Tryz.func91, Tryz.ntmps91
 go_wp2_with fail
 refine (index_any A n c xs q hn _ Hr.out).mono ?_
 rintro e w1 ⟨r, rfl, hi, hb1⟩
 rcases hi with ⟨rfl, hno⟩ | ⟨k, hk, rfl, he⟩
 ·go_wp2
  go_ret
  exact ⟨ret_bool (by simp [hno]), hb1⟩
 ·have hq : decide (q ∈ xs) = true := by simp; rw [<- he]; exact List.getElem_mem hk
  have hk0 : (0 : Int) <= (k : Int) := by omega
  clear he
  go_wp2
  go_ret
  exact ⟨ret_bool (by rw [hq]), hb1⟩

theorem below_impl (v : Value) (V : VolD) (hn : V.xs.length <= 10000000) (ha : (allIds V.xs).length <= 10000000) (a : Int) (w : World) (h : IsVol w v V) :
  Calls Tryz.prog 51 #[v, .int .i64 a] w fun e w' => ∃ vo out, e = .returned vo /\ w'.ownsRow w.heap.size 3 1 vo out.length (II out) /\ (∀ y, y ∈ out ↔ Rch V.xs a y) /\ out.length <= 10000000 /\ Below w.heap.size w w' := by
 obtain ⟨A, c0, rfl, h⟩ := h
 obtain ⟨nx, xs⟩ := V
 simp only at h hn ha ⊢
 obtain ⟨n0, hn'⟩ : ∃ n, xs.length = n := ⟨_, rfl⟩
 have HL := Lib.hid hn'
 rw [hn'] at h hn
 have H := Lib.hid h
 clear h hn'
 go_enter Tryz.func51, Tryz.ntmps51
 rw [HL.out]
 go_wp2
 obtain ⟨W1, hW1⟩ : ∃ W1, w.alloc (.cells #[.int .i64 nx, .slice A n0 c0] 26) = W1 := ⟨_, rfl⟩
 have B1 : Below w.heap.size w W1 := by rw [<- hW1]; exact belA (bel0 w) _
 have S1 : W1.heap.size = w.heap.size + 1 := by rw [<- hW1]; simp
 have hO : Blk W1 w.heap.size 26 #[.int .i64 nx, .slice A n0 c0] := by rw [<- hW1]; exact Blk.new' _ _ _ _ rfl
 rw [hW1]
 clear hW1
 have H1 := Lib.hid (H.out.next B1)
 have C0 := Lib.hid (hO.get 0 rfl)
 have C1 := Lib.hid (hO.get 1 rfl)
 clear hO
 have own0 := World.ownsRow_lit (e := 3) (size := 1) W1 #[] 0 (Nat.le_refl _) (by unfold maxLen; omega) rfl
 have own1 := World.ownsRow_lit (e := 3) (size := 1) (W1.alloc (.cells #[] 3)) #[.int .i64 a] 1 (Nat.le_refl _) (by unfold maxLen; omega) rfl
 rw [show (W1.alloc (.cells #[] 3)).heap.size = w.heap.size + 2 by simp [S1]] at own1
 rw [S1] at own0
 have Own0 := Lib.hid (own0.alloc (.cells #[.int .i64 a] 3))
 have Tail0 := Lib.hid (OwnTail.of_own (own_more own1 (show w.heap.size + 1 <= w.heap.size + 2 by omega)))
 have Bel0 := Lib.hid (belA (belA (bel0 W1) (.cells #[] 3)) (.cells #[.int .i64 a] 3))
 clear own0 own1
 go_loopw [5, 6] (fun vo vq wr => ∃ (out queue : List Int) (Ao : Option Addr) (co g o n c : Nat), vo = .slice Ao out.length co /\ vq = .slice (some ⟨g, o, none⟩) n c /\ Hid (BInv xs a out queue) /\ wr.ownsRow (w.heap.size + 1) 3 1 vo out.length (II out) /\ OwnTail wr (w.heap.size + 1) 3 g o n c (II queue) /\ Hid (vo.ownBlock ≠ some g) /\ n <= out.length + 1 /\ Below W1.heap.size W1 wr)
  (fun vo vq _ => ((allIds xs).length - lenV vo) + lenV vq)
 case atStart => exact ⟨[], [a], some ⟨w.heap.size + 1, 0, none⟩, 0, w.heap.size + 2, 0, 1, 1, rfl, rfl, BInv.start xs a, Own0.out, Tail0.out, by show _ ≠ _; simp [Value.ownBlock], by simp, Bel0.out⟩
 case round =>
  clear Own0 Tail0 Bel0
  obtain ⟨out, queue, Ao, co, g, o, n, c, rfl, rfl, hinv, hown, htail, hne, hnol, hbel⟩ := hrel
  rename World => wo
  have Own := Lib.hid hown
  have Tl := Lib.hid htail
  have hol := hinv.out.len
  have k0 := kp_ hbel C0.out
  have k1 := kp_ hbel C1.out
  have hwz := hbel.size
  have hql := htail.1
  rw [II_length] at hql
  clear hown htail
  rcases queue with _ | ⟨q, qs⟩
  ·have hn0 : n = 0 := by simpa using hql.symm
   subst hn0
   have Hend := Lib.hid (hinv.out.fin)
   go_wp2
   go_ret
   exact ⟨_, out, rfl, own_more Own.out (by omega), Hend.out, by omega, belN B1 hbel⟩
  ·rw [List.length_cons] at hql
   have hcq : wo.cell? ⟨g, o, none⟩ = some (.int .i64 q) := by have := Tl.out.cells 0 _ rfl; simpa using this
   have hn1 : 0 < n := by omega
   have hnc : n <= c := by obtain ⟨_, _, _, _, h, _⟩ := Tl.out; exact h
   obtain ⟨cc, hcc⟩ : ∃ cc, c = cc + 1 := ⟨c - 1, by omega⟩
   have pz : (0 : Int) < (n : Int) := by omega
   have hatC := fun W (hW : Below W1.heap.size W1 W) => at_impl (.agg #[.int .i64 nx, .slice A n0 c0]) ⟨nx, xs⟩ (by simp only; rw [HL.out]; exact hn) q W ⟨A, c0, by simp only; rw [HL.out], by simp only; rw [HL.out]; exact H1.out.next hW⟩
   have HatC := Lib.hid hatC
   clear hatC
   have hpb := plc_bd xs q
   rw [HL.out] at hpb
   obtain ⟨p, hp⟩ : ∃ p, plc xs q = p := ⟨_, rfl⟩
   have HP := Lib.hid hp
   simp only [hp] at HatC hpb
   clear hp
   go_wp2_with fail
   go_region_held3 (fun w' => w'.cell? ⟨w.heap.size, 0, none⟩ = some (.int .i64 nx) /\ w'.cell? ⟨w.heap.size, 1, none⟩ = some (.slice A n0 c0) /\ w'.cell? ⟨g, o, none⟩ = some (.int .i64 q))
    (first | go_keep | (refine ⟨keep1 hb4 ?_, keep1 hb4 ?_, keep1 hb4 ?_⟩ <;> go_keep))
    (first | (go_at_call 47; refine (HatC.out _ hbel.drew).mono ?_; rintro e w4 ⟨rfl, hb4⟩))
   have b4 := hbel.drew.trans (hb4.mono hwz)
   have Own4 := Lib.hid (own_below (w := wo.drew) Own.out hb4 (Nat.le_refl _))
   have Tl4 := Lib.hid (OwnTail.below (w := wo.drew) Tl.out hb4)
   clear k0 k1 hcq Own Tl HatC
   obtain ⟨o5, hA5, ht5⟩ : ∃ o5, (if cc = 0 then some (⟨g, o, none⟩ : Addr) else some ⟨g, o + 1, none⟩) = some ⟨g, o5, none⟩ /\ OwnTail w4 (w.heap.size + 1) 3 g o5 (n - 1) cc (II qs) := by
    by_cases hc0 : cc = 0
    ·subst hc0
     subst hcc
     obtain ⟨hq0, ht⟩ := Tl4.out.shut
     have hq0' : II qs = [] := hq0
     rw [hq0']
     exact ⟨o, by simp, by rw [show n - 1 = 0 by omega]; exact ht⟩
    ·subst hcc
     exact ⟨o + 1, by simp [hc0], Tl4.out.tl⟩
   have Tl5 := Lib.hid ht5
   clear ht5 Tl4
   by_cases hp0 : p < 0
   ·have Hnx := Lib.hid (show BInv xs a out qs from (hinv.out.pop).close' (kids_miss (by rw [HP.out]; exact hp0)))
    subst hcc
    go_wp2_with fail
    go_roundw
    case rel => exact ⟨out, qs, Ao, co, g, o5, n - 1, cc, rfl, rfl, Hnx, Own4.out, Tl5.out, hne, by omega, b4⟩
    case measure => simp [lenV]; omega
   ·obtain ⟨k, rfl⟩ : ∃ k : Nat, p = (k : Int) := ⟨p.toNat, by omega⟩
    have hkn : k < n0 := by omega
    have k0 := kp_ b4 C0.out
    have k1 := kp_ b4 C1.out
    obtain ⟨hkx, b, ob, A', c', rfl, hadb, z0, z1, z2, z3, z40, hrow⟩ := H1.out.at_ hkn
    have z4 := kp_ b4 z40
    have q0 : (0 : Int) <= ↑k := by omega
    have q1 : (↑k : Int) < ↑n0 := by omega
    have Hkids := Lib.hid (show kids xs q = xs[k].es.map (·.d) by rw [kids_hit HP.out, kidsAt_get hkx])
    have hra := row_all (List.getElem_mem hkx)
    obtain ⟨es, hes⟩ : ∃ es, xs[k].es = es := ⟨_, rfl⟩
    rw [hes] at z4 hrow Hkids hra
    clear hes z0 z1 z2 z3 z40
    obtain ⟨m, hm⟩ : ∃ m, es.length = m := ⟨_, rfl⟩
    have HM := Lib.hid hm
    rw [hm] at z4 hrow
    have Hrow := Lib.hid hrow
    clear hrow hm
    have Hpop := Lib.hid hinv.out.pop
    subst hcc
    go_wp2_with fail
    clear hA5
    obtain ⟨ol, HOL⟩ : ∃ ol, Hid (out.length = ol) := ⟨_, rfl⟩
    obtain ⟨ql, HQL⟩ : ∃ ql, Hid (qs.length = ql) := ⟨_, rfl⟩
    go_loopw [5, 6, 32] (fun vo vq i wr => ∃ (j : Nat) (out queue : List Int) (Ao : Option Addr) (co g o n c : Nat), j <= m /\ i = .int .i64 j /\ vo = .slice Ao out.length co /\ vq = .slice (some ⟨g, o, none⟩) n c /\ Hid (BInv2 xs a q ((es.take j).map (·.d)) out queue) /\ wr.ownsRow (w.heap.size + 1) 3 1 vo out.length (II out) /\ OwnTail wr (w.heap.size + 1) 3 g o n c (II queue) /\ Hid (vo.ownBlock ≠ some g) /\ Hid (queue.length + ol = out.length + ql) /\ Below W1.heap.size W1 wr)
     (fun _ _ i _ => m - (intOf i).toNat)
    case atStart => exact ⟨0, out, qs, Ao, co, g, o5, n - 1, cc, by omega, rfl, rfl, rfl, by simpa using Hpop, Own4.out, Tl5.out, hne, by have h1 := HOL.out; have h2 := HQL.out; show _ = _; omega, b4⟩
    case round =>
     obtain ⟨j, out2, queue2, Ao2, co2, g2, o2, n2, c2, hj, rfl, rfl, rfl, hinv2, hown2, htail2, hne2, hcnt, hbel2⟩ := hrel
     have Own2 := Lib.hid hown2
     have Tl2 := Lib.hid htail2
     have hol2 := hinv2.out.len
     have hql2 := htail2.1
     rw [II_length] at hql2
     have hw2 := hbel2.size
     have hn2 : n2 <= 10000000 := by
      have h1 := hcnt.out
      have h2 := HOL.out
      have h3 := HQL.out
      omega
     clear hown2 htail2 k0 k1 z4
     by_cases hlt : j < m
     ·obtain ⟨hjx, b2, ob2, rfl, hadb2, y0, y1, y2, y3⟩ := reads_ent (Hrow.out.below hbel2) hlt
      have q2 : (0 : Int) <= ↑j := by omega
      have q3 : (↑j : Int) < ↑m := by omega
      have Hts := Lib.hid (show (es.take (j + 1)).map (·.d) = (es.take j).map (·.d) ++ [es[j].d] by rw [List.take_succ_eq_append_getElem hjx, List.map_append]; rfl)
      have Hme := Lib.hid (show es[j].d ∈ kids xs q by rw [Hkids.out]; exact List.mem_map_of_mem (List.getElem_mem hjx))
      obtain ⟨e, he⟩ : ∃ e, es[j] = e := ⟨_, rfl⟩
      rw [he] at y0 y1 y2 y3 Hts Hme
      clear he
      obtain ⟨eh, ei, e3, ed⟩ := e
      simp only at y0 y1 y2 y3 Hts Hme
      have hE := Blk.new' wr 38 #[.int .i64 eh, .int .i64 ei, .string e3, .int .i64 ed] wr.heap.size
      have Own3 := Lib.hid (Own2.out.alloc (.cells #[.int .i64 eh, .int .i64 ei, .string e3, .int .i64 ed] 38))
      have Tl3 := Lib.hid (Tl2.out.alloc (.cells #[.int .i64 eh, .int .i64 ei, .string e3, .int .i64 ed] 38))
      have hbel3 := hbel2.alloc hbel2.size (.cells #[.int .i64 eh, .int .i64 ei, .string e3, .int .i64 ed] 38)
      have HneE := Lib.hid (show (Value.slice Ao2 out2.length co2).ownBlock ≠ some wr.heap.size from fun e => absurd (Own2.out.lt _ e).2 (Nat.lt_irrefl _))
      rcases hm : decide (ed ∈ out2) with _ | _
      ·have Hm := Lib.hid (show ed ∉ out2 by simpa using hm)
       have Hm2 := Lib.hid hm
       clear hm
       go_wp2_with fail
       refine (containsI_any Ao2 out2.length co2 out2 ed (by omega) _ (own_reads Own3.out)).mono ?_
       rintro e' w6 ⟨rfl, hb6⟩
       rw [Hm2.out]
       have hE6 := hE.below hb6 (by simp)
       have Own6 := Lib.hid (own_below Own3.out hb6 (Nat.le_refl _))
       have Tl6 := Lib.hid (Tl3.out.below hb6)
       have hbel6 := hbel3.trans (hb6.mono hbel3.size)
       have hE6l := hE6.lt
       have c63 := hE6.get 3 rfl
       clear y0 y1 y2 y3 hE Own3 Tl3 hbel3
       go_wp2_with (first
        | (at_builtin; refine wpList_app _ rfl _ _ _ rfl Tryz.el_int (Own6.out.alloc _) rfl (reads_new _ _ _ 1 1 (by rfl)) rfl (by simp [Value.oneCell']) (max_small (by omega)) (by omega) (by have := hbel6.size; simp; omega) ?_; intro v7 w7 own7 hg7 hsame7 hb7; obtain ⟨A7, c7, rfl, hv7⟩ := own_vals own7; clear hv7; have hE7 := (hE6.alloc (.cells #[.int .i64 ed] 3)).grown hg7 (Ne.symm HneE.out); have c73 := hE7.get 3 rfl; have l7 := hE7.lt)
        | (at_builtin; go_must (refine wpList_app_tail _ rfl _ _ _ rfl Tryz.el_int (((Tl6.out.alloc _).kept hg7 (Ne.symm hne2.out)).alloc _) rfl (reads_new _ _ _ 1 1 (by rfl)) (by omega) rfl (by simp [Value.oneCell']) (max_small (by omega)) (by omega) (by have := hbel6.size; have := hg7.size; simp at *; omega) ?_); intro g8 o8 c8 w8 tl8 hg8 hsame8 hb8))
       have Hnx := Lib.hid (show BInv2 xs a q ((es.take (j + 1)).map (·.d)) (out2 ++ [ed]) (queue2 ++ [ed]) by rw [Hts.out]; exact hinv2.out.add Hme.out Hm.out)
       have own8 := (own7.alloc (.cells #[.int .i64 ed] 3)).kept hg8 (by
        rcases hsame7 with h | h
        ·rw [h]; exact .inr hne2.out
        ·rw [h]; refine .inr fun e => ?_
         injection e with e
         have := Tl6.out.lt.2
         simp at e; omega)
       have Own8 := Lib.hid own8
       have Hne8 := Lib.hid (show (Value.slice A7 (out2.length + 1) c7).ownBlock ≠ some g8 by
        intro e
        have h1 := own7.lt _ e
        rcases hsame8 with h | h
        ·subst h
         rcases hsame7 with h | h
         ·exact hne2.out (h.symm.trans e)
         ·rw [h] at e; injection e with e
          have := Tl6.out.lt.2
          simp at e; omega
        ·simp at h; omega)
       have hbel8 := ((hbel6.alloc hbel6.size (.cells #[.int .i64 ed] 3)).trans (hb7.mono (by omega)))
       have hbel9 := (hbel8.alloc hbel8.size (.cells #[.int .i64 ed] 3)).trans (hb8.mono (by omega))
       have Tl8 := Lib.hid tl8
       clear own7 own8 tl8
       go_roundw
       case rel => exact ⟨j + 1, out2 ++ [ed], queue2 ++ [ed], A7, c7, g8, o8, n2 + 1, c8, by omega, by go_num, by simp, rfl, Hnx, by simpa [II] using Own8.out, by simpa [II] using Tl8.out, Hne8, by have := hcnt.out; show _ = _; simp; omega, hbel9⟩
       case measure => simp [intOf]; omega
      ·have Hm := Lib.hid (show ed ∈ out2 by simpa using hm)
       have Hm2 := Lib.hid hm
       clear hm
       go_wp2_with fail
       refine (containsI_any Ao2 out2.length co2 out2 ed (by omega) _ (own_reads Own3.out)).mono ?_
       rintro e' w6 ⟨rfl, hb6⟩
       rw [Hm2.out]
       have Own6 := Lib.hid (own_below Own3.out hb6 (Nat.le_refl _))
       have Tl6 := Lib.hid (Tl3.out.below hb6)
       have hbel6 := hbel3.trans (hb6.mono hbel3.size)
       have Hnx := Lib.hid (show BInv2 xs a q ((es.take (j + 1)).map (·.d)) out2 queue2 by rw [Hts.out]; exact hinv2.out.skip Hm.out)
       clear y0 y1 y2 y3 hE Own3 Tl3 hbel3
       go_wp2
       go_roundw
       case rel => exact ⟨j + 1, out2, queue2, Ao2, co2, g2, o2, n2, c2, by omega, by go_num, rfl, rfl, Hnx, Own6.out, Tl6.out, hne2, hcnt, hbel6⟩
       case measure => simp [intOf]; omega
     ·obtain rfl : j = m := by omega
      have Hcl := Lib.hid (show BInv xs a out2 queue2 from by
       have h1 := hinv2.out
       rw [List.take_of_length_le (by have := HM.out; omega), <- Hkids.out] at h1
       exact h1.close)
      go_wp2
      go_roundw
      case rel => exact ⟨out2, queue2, Ao2, co2, g2, o2, n2, c2, rfl, rfl, Hcl, Own2.out, Tl2.out, hne2, by have h1 := hcnt.out; have h2 := HOL.out; have h3 := HQL.out; omega, hbel2⟩
      case measure =>
       have h1 := hcnt.out
       have h2 := HOL.out
       have h3 := HQL.out
       simp only [lenV]
       omega

/-- Truths as cells. -/
def BB (l : List Bool) : List Value := l.map .bool
theorem BB_length (l : List Bool) : (BB l).length = l.length := by simp [BB]
theorem BB_set (l : List Bool) (k : Nat) (b : Bool) : (BB l).set k (.bool b) = BB (l.set k b) := by simp [BB, List.map_set]
theorem BB_made (n : Nat) : (madeCells #[.bool false] (n * 1)).toList = BB (List.replicate n false) := by
 apply List.ext_getElem?
 intro i
 by_cases hi : i < n
 ·simp [madeCells, BB, hi, Nat.mod_one]
 ·simp [madeCells, BB, hi]
theorem mkAt_no {xs : List InoD} {st : List Bool × List Bool} {i : Nat} (h : st.2[i]? = some false) : mkAt xs st i = st := by
 unfold mkAt; rw [if_neg]; rw [getD_iff, h]; simp
/-- The first so many of an inode's. -/
def mkK (xs : List InoD) (st : List Bool × List Bool) (i k : Nat) : List Bool × List Bool := ((kidsAt xs i).take k).foldl (mk1 xs) st
theorem mkK_succ {xs : List InoD} {st : List Bool × List Bool} {i k : Nat} (hi : i < xs.length) (hk : k < xs[i].es.length) : mkK xs st i (k + 1) = mk1 xs (mkK xs st i k) xs[i].es[k].d := by
 unfold mkK
 rw [kidsAt_get hi, List.take_succ_eq_append_getElem (by simpa using hk), List.foldl_append]
 simp
theorem mkK_all {xs : List InoD} {st : List Bool × List Bool} {i : Nat} (hi : i < xs.length) (h : st.2[i]? = some true) : mkAt xs st i = mkK xs st i xs[i].es.length := by
 unfold mkAt mkK; rw [if_pos (getD_iff.2 h), List.take_of_length_le]
 rw [kidsAt_get hi]; simp
theorem own_bool {w : World} {base n g c : Nat} {e : TypeId} {l : List Bool} (h : w.ownsRow base e 1 (.slice (some ⟨g, 0, none⟩) n c) n (BB l)) {k : Nat} {b : Bool} (hk : l[k]? = some b) : w.cell? ⟨g, k, none⟩ = some (.bool b) := by
 have hl := h.1
 rw [BB_length] at hl
 have hlt : k < l.length := (List.getElem?_eq_some_iff.1 hk).1
 rw [h.cellAt k (by omega)]
 simp [BB, hk]
theorem bool_at {l : List Bool} {k : Nat} (h : k < l.length) : l[k]? = some true ∨ l[k]? = some false := by
 rw [List.getElem?_eq_getElem h]
 cases l[k] <;> simp

theorem l6Below_any (v : Value) (V : VolD) (hn : V.xs.length <= 10000000) (ha : (allIds V.xs).length <= 10000000) (a : Int) (w : World) (h : IsVol w v V) :
  Calls Tryz.prog 55 #[v, .int .i64 a] w fun e w' => ∃ g, e = .returned (.slice (some ⟨g, 0, none⟩) V.xs.length V.xs.length) /\ w'.ownsRow w.heap.size 4 1 (.slice (some ⟨g, 0, none⟩) V.xs.length V.xs.length) V.xs.length (BB (belowB V.xs a)) /\ Below w.heap.size w w' := by
 obtain ⟨A, c0, rfl, h⟩ := h
 obtain ⟨nx, xs⟩ := V
 simp only at h hn ha ⊢
 obtain ⟨n, hn'⟩ : ∃ n, xs.length = n := ⟨_, rfl⟩
 have HL := Lib.hid hn'
 rw [hn'] at h hn ⊢
 have H := Lib.hid h
 clear h hn'
 have hmk := run_make_any (P := Tryz.prog) 77 4 (.bool false) 1 1 Tryz.underlying77 (by kernel_rfl) n (by omega) (by omega)
 obtain ⟨W1, hW1⟩ : ∃ W1, w.alloc (.cells #[.int .i64 nx, .slice A n c0] 26) = W1 := ⟨_, rfl⟩
 have B1 : Below w.heap.size w W1 := by rw [<- hW1]; exact belA (bel0 w) _
 have S1 : W1.heap.size = w.heap.size + 1 := by rw [<- hW1]; simp
 have hO : Blk W1 w.heap.size 26 #[.int .i64 nx, .slice A n c0] := by rw [<- hW1]; exact Blk.new' _ _ _ _ rfl
 have HW1 := Lib.hid hW1
 have H1 := Lib.hid (H.out.next B1)
 have C0 := Lib.hid (hO.get 0 rfl)
 have C1 := Lib.hid (hO.get 1 rfl)
 clear hO hW1
 obtain ⟨M, hM⟩ : ∃ M, madeCells (Value.bool false).cells (n * 1) = M := ⟨_, rfl⟩
 have own0 := own_made W1 (Value.bool false).cells 4 n 1 (by unfold maxLen; omega)
 have own1 := own_made (W1.alloc (.cells (madeCells (Value.bool false).cells (n * 1)) 4)) (Value.bool false).cells 4 n 1 (by unfold maxLen; omega)
 rw [show (madeCells (Value.bool false).cells (n * 1)).toList = BB (List.replicate n false) from BB_made n] at own0 own1
 rw [hM] at own0 own1 hmk
 rw [show (W1.alloc (.cells M 4)).heap.size = w.heap.size + 2 by simp [S1]] at own1
 rw [S1] at own0
 have OwnI := Lib.hid (own0.alloc (.cells M 4))
 have OwnO := Lib.hid own1
 have b2 := belA (belA (bel0 W1) (.cells M 4)) (.cells M 4)
 clear own0 own1 hM
 have hatC := fun W (hW : Below W1.heap.size W1 W) (e : Int) => l6At_any (.agg #[.int .i64 nx, .slice A n c0]) ⟨nx, xs⟩ (by simp only; rw [HL.out]; exact hn) e W ⟨A, c0, by simp only; rw [HL.out], by simp only; rw [HL.out]; exact H1.out.next hW⟩
 have HatC := Lib.hid hatC
 clear hatC
 go_enter Tryz.func55, Tryz.ntmps55
 go_wp2_with fail
 rw [HW1.out]
 have hpb := plc_bd xs a
 rw [HL.out] at hpb
 refine (HatC.out _ b2 a).mono ?_
 rintro e w2 ⟨rfl, hb2⟩
 have b3 := b2.trans (hb2.mono b2.size)
 have OwnI2 := Lib.hid (own_below OwnI.out hb2 (Nat.le_refl _))
 have OwnO2 := Lib.hid (own_below OwnO.out hb2 (Nat.le_refl _))
 obtain ⟨p, hp⟩ : ∃ p, plc xs a = p := ⟨_, rfl⟩
 have HP := Lib.hid hp
 simp only [hp] at hpb ⊢
 clear hp OwnI OwnO b2 hb2 hmk
 by_cases hp0 : p < 0
 ·have Hf := Lib.hid (show belowB xs a = List.replicate n false by unfold belowB; rw [HP.out, if_pos hp0, HL.out])
  go_wp2
  go_ret
  exact ⟨_, rfl, by rw [Hf.out]; exact own_more OwnI2.out (by omega), belN B1 b3⟩
 ·obtain ⟨s, rfl⟩ : ∃ s : Nat, p = (s : Int) := ⟨p.toNat, by omega⟩
  have hsn : s < n := by omega
  have Hf := Lib.hid (show belowB xs a = (mkR xs (List.replicate n false, (List.replicate n false).set s true) n).1 by unfold belowB; rw [HP.out, if_neg hp0, HL.out, Int.toNat_natCast])
  obtain ⟨u0, cu0⟩ := own_cell1 OwnO2.out s hsn
  have f0 := own_frozen OwnO2.out s
  have q0 : (0 : Int) <= ↑s := by omega
  have q1 : (↑s : Int) < ↑n := by omega
  have ownO3 := own_set OwnO2.out s (.bool true)
  rw [BB_set] at ownO3
  have OwnO3 := Lib.hid ownO3
  have OwnI3 := Lib.hid (own_far (p := ⟨w.heap.size + 2, s, none⟩) (u := .bool true) OwnI2.out (by simp))
  have b4 := b3.setCell (p := ⟨w.heap.size + 2, s, none⟩) (show W1.heap.size <= w.heap.size + 2 by omega) (.bool true)
  have k1 := kp_ b4 C1.out
  obtain ⟨st0, hst0⟩ : ∃ st0, (List.replicate n false, (List.replicate n false).set s true) = st0 := ⟨_, rfl⟩
  have hl01 : st0.1.length = n := by rw [<- hst0]; simp
  have hl02 : st0.2.length = n := by rw [<- hst0]; simp
  have OwnI4 := Lib.hid (show (w2.setCell ⟨w.heap.size + 2, s, none⟩ (.bool true)).ownsRow (w.heap.size + 1) 4 1 (.slice (some ⟨w.heap.size + 1, 0, none⟩) n n) n (BB st0.1) by rw [<- hst0]; exact OwnI3.out)
  have OwnO4 := Lib.hid (show (w2.setCell ⟨w.heap.size + 2, s, none⟩ (.bool true)).ownsRow (w.heap.size + 2) 4 1 (.slice (some ⟨w.heap.size + 2, 0, none⟩) n n) n (BB st0.2) by rw [<- hst0]; exact OwnO3.out)
  rw [hst0] at Hf
  clear hst0 ownO3 OwnO2 OwnI2 OwnO3 OwnI3 b3
  go_wp2
  clear k1 cu0 f0
  go_loopw [8] (fun r wr => ∃ (k : Nat), k <= n /\ r = .int .i64 k /\ wr.ownsRow (w.heap.size + 1) 4 1 (.slice (some ⟨w.heap.size + 1, 0, none⟩) n n) n (BB (mkR xs st0 k).1) /\ wr.ownsRow (w.heap.size + 2) 4 1 (.slice (some ⟨w.heap.size + 2, 0, none⟩) n n) n (BB (mkR xs st0 k).2) /\ Below W1.heap.size W1 wr)
   (fun r _ => n - (intOf r).toNat)
  case atStart => exact ⟨0, by omega, rfl, OwnI4.out, OwnO4.out, b4⟩
  case round =>
   clear OwnI4 OwnO4 b4
   obtain ⟨r, hr, rfl, hI, hO, hbel⟩ := hrel
   have OI := Lib.hid hI
   have OO := Lib.hid hO
   have k1 := kp_ hbel C1.out
   clear hI hO
   rename World => wo
   by_cases hlt : r < n
   ·have r0 : (0 : Int) <= ↑r := by omega
    have r1 : (↑r : Int) < ↑n := by omega
    obtain ⟨st, hst⟩ : ∃ st, mkR xs st0 r = st := ⟨_, rfl⟩
    have Hst := Lib.hid (show mkR xs st0 (r + 1) = mkAll xs st n by rw [mkR, hst, HL.out])
    rw [hst] at OI OO
    clear hst
    go_wp2
    clear k1
    go_loopw [9] (fun i wr => ∃ (k : Nat), k <= n /\ i = .int .i64 k /\ wr.ownsRow (w.heap.size + 1) 4 1 (.slice (some ⟨w.heap.size + 1, 0, none⟩) n n) n (BB (mkAll xs st k).1) /\ wr.ownsRow (w.heap.size + 2) 4 1 (.slice (some ⟨w.heap.size + 2, 0, none⟩) n n) n (BB (mkAll xs st k).2) /\ Below W1.heap.size W1 wr)
     (fun i _ => n - (intOf i).toNat)
    case atStart => exact ⟨0, by omega, rfl, OI.out, OO.out, hbel⟩
    case round =>
     clear OI OO hbel
     obtain ⟨i, hi, rfl, hI, hO, hbel⟩ := hrel
     have OI := Lib.hid hI
     have OO := Lib.hid hO
     have k1 := kp_ hbel C1.out
     clear hI hO
     rename World => wp
     by_cases hlt2 : i < n
     ·have i0 : (0 : Int) <= ↑i := by omega
      have i1 : (↑i : Int) < ↑n := by omega
      obtain ⟨ss, hss⟩ : ∃ ss, mkAll xs st i = ss := ⟨_, rfl⟩
      have Hss := Lib.hid (show mkAll xs st (i + 1) = mkAt xs ss i by rw [mkAll_succ, hss])
      rw [hss] at OI OO
      clear hss
      have hlO : ss.2.length = n := by have := OO.out.1; rw [BB_length] at this; omega
      have hix : i < xs.length := by have := HL.out; omega
      rcases bool_at (l := ss.2) (k := i) (by omega) with hb | hb
      rotate_left
      ·have Hno := Lib.hid (Hss.out.trans (mkAt_no hb))
       have cb := own_bool OO.out hb
       go_wp2
       refine wp_loop_rounds 1 ?_
       rw [rounds_succ]
       go_wp2
       go_roundw
       case rel => exact ⟨i + 1, by omega, by go_num, by rw [Hno.out]; exact OI.out, by rw [Hno.out]; exact OO.out, hbel⟩
       case measure => simp [intOf]; omega
      ·have Hyes := Lib.hid (Hss.out.trans (mkK_all hix hb))
       have Hb := Lib.hid hb
       have hra := row_all (List.getElem_mem hix)
       go_wp2
       clear k1
       go_loopw [10] (fun k wr => ∃ (j : Nat), j <= xs[i].es.length /\ k = .int .i64 j /\ wr.ownsRow (w.heap.size + 1) 4 1 (.slice (some ⟨w.heap.size + 1, 0, none⟩) n n) n (BB (mkK xs ss i j).1) /\ wr.ownsRow (w.heap.size + 2) 4 1 (.slice (some ⟨w.heap.size + 2, 0, none⟩) n n) n (BB (mkK xs ss i j).2) /\ Below W1.heap.size W1 wr)
        (fun k _ => xs[i].es.length - (intOf k).toNat)
       case atStart => exact ⟨0, by omega, rfl, OI.out, OO.out, hbel⟩
       case round =>
        clear OI OO hbel
        obtain ⟨j, hj, rfl, hI, hO, hbel⟩ := hrel
        have OI := Lib.hid hI
        have OO := Lib.hid hO
        clear hI hO
        have k0 := kp_ hbel C0.out
        have k1 := kp_ hbel C1.out
        have hop : (mkK xs ss i j).2[i]? = some true := (fold_le xs _ ss).2 i Hb.out
        have cb := own_bool OO.out hop
        obtain ⟨_, b, ob, A', c', rfl, hadb, z0, z1, z2, z3, z4, hrow⟩ := (H1.out.below hbel).at_ hlt2
        clear z0 z1 z2 z3 hop
        by_cases hlt3 : j < xs[i].es.length
        ·obtain ⟨hjx, b2, o2, rfl, hadb2, y0, y1, y2, y3⟩ := reads_ent hrow hlt3
         have q2 : (0 : Int) <= ↑j := by omega
         have q3 : (↑j : Int) < ↑xs[i].es.length := by omega
         have Hk := Lib.hid (mkK_succ (st := ss) hix hlt3)
         have hpb := plc_bd xs xs[i].es[j].d
         rw [HL.out] at hpb
         have HatC2 := Lib.hid (HatC.out _ hbel.drew xs[i].es[j].d)
         obtain ⟨q, hq⟩ : ∃ q, plc xs xs[i].es[j].d = q := ⟨_, rfl⟩
         have HQ := Lib.hid hq
         simp only [hq] at HatC2 hpb
         clear y0 y1 y2 hrow hq
         go_wp2_with fail
         go_region_held3 (fun w' => w'.cell? ⟨w.heap.size, 0, none⟩ = some (.int .i64 nx) /\ w'.cell? ⟨w.heap.size, 1, none⟩ = some (.slice (some ⟨b, ob, none⟩) n c0) /\ w'.cell? ⟨b, ob + i * 5 + 4, none⟩ = some (.slice (some ⟨b2, o2, none⟩) xs[i].es.length c') /\ w'.cell? ⟨b2, o2 + j * 4 + 3, none⟩ = some (.int .i64 xs[i].es[j].d))
          (first | go_keep | (refine ⟨keep1 hb5 ?_, keep1 hb5 ?_, keep1 hb5 ?_, keep1 hb5 ?_⟩ <;> go_keep))
          (first | (go_at_call 54; refine HatC2.out.mono ?_; rintro e w5 ⟨rfl, hb5⟩))
         have b5 := hbel.drew.trans (hb5.mono hbel.size)
         have OI5 := Lib.hid (own_below (w := wr.drew) OI.out hb5 (Nat.le_refl _))
         have OO5 := Lib.hid (own_below (w := wr.drew) OO.out hb5 (Nat.le_refl _))
         clear cb k0 k1 z4 y3 OI OO HatC2
         by_cases hq0 : q < 0
         ·have Hn := Lib.hid (show mkK xs ss i (j + 1) = mkK xs ss i j by rw [Hk.out, mk1, HQ.out, if_pos hq0])
          go_wp2
          go_roundw
          case rel => exact ⟨j + 1, by omega, by go_num, by rw [Hn.out]; exact OI5.out, by rw [Hn.out]; exact OO5.out, b5⟩
          case measure => simp [intOf]; omega
         ·obtain ⟨p, rfl⟩ : ∃ p : Nat, q = (p : Int) := ⟨q.toNat, by omega⟩
          have hpn : p < n := by omega
          have Hn := Lib.hid (show mkK xs ss i (j + 1) = ((mkK xs ss i j).1.set p true, (mkK xs ss i j).2.set p true) by rw [Hk.out, mk1, HQ.out, if_neg hq0, Int.toNat_natCast])
          obtain ⟨u1, cu1⟩ := own_cell1 OI5.out p hpn
          obtain ⟨u2, cu2⟩ := own_cell1 OO5.out p hpn
          have f1 := own_frozen OI5.out p
          have f2 := own_frozen OO5.out p
          have p0 : (0 : Int) <= ↑p := by omega
          have p1 : (↑p : Int) < ↑n := by omega
          have oi6 := own_far (p := ⟨w.heap.size + 2, p, none⟩) (u := .bool true) (own_set OI5.out p (.bool true)) (by simp)
          have oo6 := own_set (own_far (p := ⟨w.heap.size + 1, p, none⟩) (u := .bool true) OO5.out (by simp)) p (.bool true)
          rw [BB_set] at oi6 oo6
          have OI6 := Lib.hid oi6
          have OO6 := Lib.hid oo6
          have b6 := (b5.setCell (p := ⟨w.heap.size + 1, p, none⟩) (show W1.heap.size <= w.heap.size + 1 by omega) (.bool true)).setCell (p := ⟨w.heap.size + 2, p, none⟩) (show W1.heap.size <= w.heap.size + 2 by omega) (.bool true)
          clear oi6 oo6 OI5 OO5
          go_wp2
          go_roundw
          case rel => exact ⟨j + 1, by omega, by go_num, by rw [Hn.out]; exact OI6.out, by rw [Hn.out]; exact OO6.out, b6⟩
          case measure => simp [intOf]; omega
        ·have hje : j = xs[i].es.length := by omega
         clear hrow
         go_wp2
         go_roundw
         case rel => exact ⟨i + 1, by omega, by go_num, by rw [Hyes.out, <- hje]; exact OI.out, by rw [Hyes.out, <- hje]; exact OO.out, hbel⟩
         case measure => simp [intOf]; omega
     ·obtain rfl : i = n := by omega
      go_wp2
      go_roundw
      case rel => exact ⟨r + 1, by omega, by go_num, by rw [Hst.out]; exact OI.out, by rw [Hst.out]; exact OO.out, hbel⟩
      case measure => simp [intOf]; omega
   ·obtain rfl : r = n := by omega
    go_wp2
    go_ret
    exact ⟨_, rfl, by rw [Hf.out]; exact own_more OI.out (by omega), belN B1 hbel⟩

end Go.Proofs.YtjjniapamdleoaaGreatDoor
