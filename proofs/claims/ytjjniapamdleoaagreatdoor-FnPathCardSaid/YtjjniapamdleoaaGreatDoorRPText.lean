/- The text of an inode: the program's walk. -/
import Derived.Test.YtjjniapamdleoaaGreatDoorRPDeep
namespace Go.Proofs.YtjjniapamdleoaaGreatDoor
open Go Go.RowKit
set_option maxHeartbeats 4000000
set_option maxRecDepth 100000

def sep : ByteArray := ⟨#[47]⟩
theorem sep_size : sep.size = 1 := rfl
def tpick (best t : ByteArray) : ByteArray := if best.size = 0 ∨ Op.bytesLess t.toList best.toList = true then t else best
/-- The best text, of the first so many entries of an inode with a text of its own. -/
def textE (T : ByteArray) (a : Int) (es : List EntD) (best : ByteArray) : Nat -> ByteArray
 | 0 => best
 | k + 1 => match es[k]? with | none => textE T a es best k | some e => if e.d = a then tpick (textE T a es best k) (T ++ sep ++ e.s) else textE T a es best k
def textI (xs : List InoD) (T : Int -> ByteArray) (a : Int) : Nat -> ByteArray
 | 0 => ⟨#[]⟩
 | k + 1 => match xs[k]? with | none => textI xs T a k | some x => textE (T x.id) a x.es (textI xs T a k) x.es.length
theorem textE_yes {T best : ByteArray} {a : Int} {es : List EntD} {k : Nat} (hk : k < es.length) (h : es[k].d = a) : textE T a es best (k + 1) = tpick (textE T a es best k) (T ++ sep ++ es[k].s) := by
 rw [textE, List.getElem?_eq_getElem hk]; simp [h]
theorem textE_no {T best : ByteArray} {a : Int} {es : List EntD} {k : Nat} (hk : k < es.length) (h : es[k].d ≠ a) : textE T a es best (k + 1) = textE T a es best k := by
 rw [textE, List.getElem?_eq_getElem hk]; simp [h]
theorem textI_succ {xs : List InoD} {T : Int -> ByteArray} {a : Int} {k : Nat} (hk : k < xs.length) : textI xs T a (k + 1) = textE (T xs[k].id) a xs[k].es (textI xs T a k) xs[k].es.length := by
 rw [textI, List.getElem?_eq_getElem hk]
theorem tpick_size (best t : ByteArray) (m : Nat) (h1 : best.size <= m) (h2 : t.size <= m) : (tpick best t).size <= m := by unfold tpick; split <;> assumption
theorem textE_size {T best : ByteArray} {a : Int} {es : List EntD} (hT : T.size <= 40000000) (hb : best.size <= 50000000) (hz : ∀ e ∈ es, e.s.size <= 2000000) : ∀ k, (textE T a es best k).size <= 50000000
 | 0 => hb
 | k + 1 => by
  have ih := textE_size (a := a) hT hb hz k
  rw [textE]
  split
  ·exact ih
  ·rename_i e he
   have := hz e (List.mem_of_getElem? he)
   split
   ·exact tpick_size _ _ _ ih (by rw [ByteArray.size_append, ByteArray.size_append, sep_size]; omega)
   ·exact ih
theorem textI_size {xs : List InoD} {T : Int -> ByteArray} {a : Int} (hT : ∀ i, (T i).size <= 40000000) (hz : ∀ x ∈ xs, ∀ e ∈ x.es, e.s.size <= 2000000) : ∀ k, (textI xs T a k).size <= 50000000
 | 0 => by show 0 <= _; omega
 | k + 1 => by
  have ih := textI_size (a := a) hT hz k
  rw [textI]
  split
  ·exact ih
  ·rename_i x hx
   exact textE_size (hT _) ih (hz x (List.mem_of_getElem? hx)) _
/-- The best text, over those that have an id. -/
def foldT (T : Int -> ByteArray) (l : List (Int × ByteArray)) (best : ByteArray) : ByteArray := l.foldl (fun b p => tpick b (T p.1 ++ sep ++ p.2)) best
theorem textE_fold {T : Int -> ByteArray} {i a : Int} {es : List EntD} {best : ByteArray} : ∀ k, k <= es.length -> textE (T i) a es best k = foldT T (((es.take k).filter fun e => e.d == a).map fun e => (i, e.s)) best
 | 0, _ => rfl
 | k + 1, hk => by
  have hk' : k < es.length := by omega
  have ih := textE_fold (T := T) (i := i) (a := a) (es := es) (best := best) k (by omega)
  rw [List.take_succ_eq_append_getElem hk', List.filter_append, List.map_append]
  unfold foldT at ih ⊢
  rw [List.foldl_append, <- ih]
  by_cases h : es[k].d = a
  ·rw [textE_yes hk' h]; simp [h]
  ·rw [textE_no hk' h]; simp [h]
theorem textI_fold {xs : List InoD} {T : Int -> ByteArray} {a : Int} : ∀ k, k <= xs.length -> textI xs T a k = foldT T (pairs (xs.take k) a) ⟨#[]⟩
 | 0, _ => rfl
 | k + 1, hk => by
  have hk' : k < xs.length := by omega
  have ih := textI_fold (T := T) (a := a) (xs := xs) k (by omega)
  rw [textI_succ hk', textE_fold _ (Nat.le_refl _), ih, List.take_succ_eq_append_getElem hk', List.take_length]
  unfold pairs foldT
  rw [List.flatMap_append, List.foldl_append]
  simp
theorem textI_all (xs : List InoD) (T : Int -> ByteArray) (a : Int) : textI xs T a xs.length = foldT T (pairs xs a) ⟨#[]⟩ := by rw [textI_fold _ (Nat.le_refl _), List.take_length]
theorem tpick_some {best t : ByteArray} (ht : 0 < t.size) : (tpick best t).size ≠ 0 := by
 unfold tpick; split
 ·omega
 ·rename_i h; exact fun h0 => h (.inl h0)
theorem foldT_some {T : Int -> ByteArray} : ∀ (l : List (Int × ByteArray)) (best : ByteArray), (best.size ≠ 0 ∨ l ≠ []) -> (foldT T l best).size ≠ 0
 | [], best, h => by
  rcases h with h | h
  ·exact h
  ·exact absurd rfl h
 | p :: l, best, _ => foldT_some l _ (.inl (tpick_some (by rw [ByteArray.size_append, ByteArray.size_append, sep_size]; omega)))
theorem empty_list (s : ByteArray) (h : s.size = 0) : s.toList.isEmpty = true := by
 rw [ByteArray.toList_eq]
 have := size_list s
 rw [h] at this
 rw [List.eq_nil_of_length_eq_zero this]; rfl

theorem textOf_gen (v : Value) (V : VolD) (hn : V.xs.length <= 10000000) (hz : ∀ x ∈ V.xs, x.es.length <= 10000000) (hzs : ∀ x ∈ V.xs, ∀ e ∈ x.es, e.s.size <= 2000000) (T : Int -> ByteArray) (hT : ∀ i, (T i).size <= 40000000) (a : Int) (w : World) (h : IsVol w v V)
  (hcall : ∀ x ∈ V.xs, hasE a x.es = true -> ∀ W, IsVol W v V -> Calls Tryz.prog 61 #[v, .int .i64 x.id] W fun e w' => e = .returned (.string (T x.id)) /\ Below W.heap.size W w') :
  Calls Tryz.prog 61 #[v, .int .i64 a] w fun e w' => e = .returned (.string (textI V.xs T a V.xs.length)) /\ Below w.heap.size w w' := by
 have hv := Lib.hid h
 have Hcall := Lib.hid hcall
 have Hz := Lib.hid hz
 have Hzs := Lib.hid hzs
 have HTb := Lib.hid hT
 obtain ⟨A, c, rfl, h⟩ := h
 obtain ⟨nx, xs⟩ := V
 simp only at h hn Hcall Hz Hzs ⊢
 have H := Lib.hid h
 have Hsz := Lib.hid (textI_size (a := a) HTb.out Hzs.out)
 clear h hcall hz hT hzs
 obtain ⟨n, hn'⟩ : ∃ n, xs.length = n := ⟨_, rfl⟩
 have HL := Lib.hid hn'
 simp only [hn'] at H hn hv Hcall ⊢
 clear hn'
 obtain ⟨R, hR⟩ : ∃ R, textI xs T a n = R := ⟨_, rfl⟩
 have HR := Lib.hid hR
 rw [hR]
 clear hR
 obtain ⟨W1, hW1⟩ : ∃ W1, w.alloc (.cells #[.int .i64 nx, .slice A n c] 26) = W1 := ⟨_, rfl⟩
 have B1 : Below w.heap.size w W1 := by rw [<- hW1]; exact belA (bel0 w) _
 have hV : Blk W1 w.heap.size 26 #[.int .i64 nx, .slice A n c] := by rw [<- hW1]; exact Blk.new' _ _ _ _ rfl
 have HW1 := Lib.hid hW1
 have V0 := Lib.hid (hV.get 0 rfl)
 have V1 := Lib.hid (hV.get 1 rfl)
 have H1 := Lib.hid ((H.out.below B1).more B1.size)
 clear hW1 hV
 go_enter Tryz.func61, Tryz.ntmps61
 go_wp2
 rw [HW1.out]
 go_loopw [5, 14] (fun m i wr => ∃ (k : Nat) (q : ByteArray), k <= n /\ i = .int .i64 k /\ m = .string q /\ Hid (q = textI xs T a k) /\ Below W1.heap.size W1 wr)
  (fun _ i _ => n - (intOf i).toNat)
 case atStart => exact ⟨0, ⟨#[]⟩, by omega, rfl, rfl, rfl, bel0 W1⟩
 case round =>
  obtain ⟨k, q, hk, rfl, rfl, hq, hbel⟩ := hrel
  rename World => wo
  by_cases hlt : k < n
  ·obtain ⟨hkx, b, o, A', c', rfl, hadb, z0, z1, z2, z3, z4, hrow⟩ := (H1.out.below hbel).at_ hlt
   have q0 : (0 : Int) <= ↑k := by omega
   have q1 : (↑k : Int) < ↑n := by omega
   have Hs := Lib.hid (textI_succ (T := T) (a := a) hkx)
   have hzk := Hz.out _ (List.getElem_mem hkx)
   have hzsk := Lib.hid (Hzs.out _ (List.getElem_mem hkx))
   have hck := Lib.hid (Hcall.out _ (List.getElem_mem hkx))
   have htb := HTb.out xs[k].id
   obtain ⟨x, hx⟩ : ∃ x, xs[k] = x := ⟨_, rfl⟩
   rw [hx] at z0 z1 z2 z3 z4 hrow Hs hzk hck htb hzsk
   clear hx
   obtain ⟨xi, xk, xl, xt, es⟩ := x
   simp only at z0 z1 z2 z3 z4 hrow Hs hzk hck htb hzsk
   obtain ⟨t, ht⟩ : ∃ t, T xi = t := ⟨_, rfl⟩
   rw [ht] at Hs hck htb
   clear ht
   have Hes := Lib.hid (textE_size (a := a) (es := es) (best := q) htb (by rw [hq.out]; exact Hsz.out k) hzsk.out)
   obtain ⟨m, hm⟩ : ∃ m, es.length = m := ⟨_, rfl⟩
   have HM := Lib.hid hm
   rw [hm] at z4 hrow Hs hzk
   clear hm
   obtain ⟨W2, hW2⟩ : ∃ W2, wo.alloc (.cells #[.int .i64 xi, .int .i64 xk, .int .i64 xl, .string xt, .slice A' m c'] 36) = W2 := ⟨_, rfl⟩
   have b2 : Below W1.heap.size W1 W2 := by rw [<- hW2]; exact hbel.alloc hbel.size _
   have hE : Blk W2 wo.heap.size 36 #[.int .i64 xi, .int .i64 xk, .int .i64 xl, .string xt, .slice A' m c'] := by rw [<- hW2]; exact Blk.new' _ _ _ _ rfl
   have hb2 : Below wo.heap.size wo W2 := by rw [<- hW2]; exact belA (bel0 wo) _
   have Hrow2 := Lib.hid (((hrow.more hbel.size).below hb2).more hb2.size)
   have HW2 := Lib.hid hW2
   have E0 := Lib.hid (hE.get 0 rfl)
   clear hW2 hrow hE hbel
   go_wp2
   rw [HW2.out]
   clear z0 z1 z2 z3 z4
   go_loopw [5, 21] (fun u i wr => ∃ (j : Nat) (p : ByteArray), j <= m /\ i = .int .i64 j /\ u = .string p /\ Hid (p = textE t a es q j) /\ Below W2.heap.size W2 wr)
    (fun _ i _ => m - (intOf i).toNat)
   case atStart => exact ⟨0, q, by omega, rfl, rfl, rfl, bel0 W2⟩
   case round =>
    obtain ⟨j, p, hj, rfl, rfl, hp, hbel2⟩ := hrel
    by_cases hlt2 : j < m
    ·obtain ⟨hjx, b3, o3, rfl, hadb3, y0, y1, y2, y3⟩ := reads_ent (Hrow2.out.below hbel2) hlt2
     have q2 : (0 : Int) <= ↑j := by omega
     have q3 : (↑j : Int) < ↑m := by omega
     have Hyes := Lib.hid (fun h => textE_yes (T := t) (best := q) (a := a) hjx h)
     have Hno := Lib.hid (fun h => textE_no (T := t) (best := q) (a := a) hjx h)
     have Hin := Lib.hid (show es[j].d = a -> hasE a es = true from fun h => hasE_iff.2 ⟨_, List.getElem_mem hjx, h⟩)
     have hnz := hzsk.out _ (List.getElem_mem hjx)
     have hpz := Hes.out j
     rw [<- hp.out] at hpz
     obtain ⟨e, he⟩ : ∃ e, es[j] = e := ⟨_, rfl⟩
     rw [he] at y0 y1 y2 y3 Hyes Hno Hin hnz
     clear he
     obtain ⟨eh, ei, e3, ed⟩ := e
     simp only at y0 y1 y2 y3 Hyes Hno Hin hnz
     by_cases hed : ed = a
     ·have hed2 : (ed != a) = false := by simpa using hed
      have hcl0 := hck.out (Hin.out hed)
      have Hcl := Lib.hid hcl0
      have Hst := Lib.hid (Hyes.out hed)
      obtain ⟨W3, hW3⟩ : ∃ W3, wr.alloc (.cells #[.int .i64 eh, .int .i64 ei, .string e3, .int .i64 ed] 38) = W3 := ⟨_, rfl⟩
      have b3' : Below W2.heap.size W2 W3 := by rw [<- hW3]; exact hbel2.alloc hbel2.size _
      have hF : Blk W3 wr.heap.size 38 #[.int .i64 eh, .int .i64 ei, .string e3, .int .i64 ed] := by rw [<- hW3]; exact Blk.new' _ _ _ _ rfl
      have HW3 := Lib.hid hW3
      have F2 := Lib.hid (hF.get 2 rfl)
      clear hW3 hF hcl0 hed
      have n1 : ¬ 9223372036854775807 < t.size + 1 := by omega
      have n2 : ¬ 9223372036854775807 < t.size + 1 + e3.size := by omega
      go_wp2_with fail
      rw [HW3.out]
      have v0 := keep1 (b2.trans (b3'.mono b2.size)) V0.out (Nat.le_refl _)
      have v1 := keep1 (b2.trans (b3'.mono b2.size)) V1.out (Nat.le_refl _)
      have e0 := keep1 b3' E0.out (Nat.le_refl _)
      have f2 := F2.out
      clear y0 y1 y2 y3
      go_region_held3 (fun w' => w'.cell? ⟨w.heap.size, 0, none⟩ = some (.int .i64 nx) /\ w'.cell? ⟨w.heap.size, 1, none⟩ = some (.slice (some ⟨b, o, none⟩) n c) /\ w'.cell? ⟨wo.heap.size, 0, none⟩ = some (.int .i64 xi) /\ w'.cell? ⟨wr.heap.size, 2, none⟩ = some (.string e3))
       (first | go_keep | (refine ⟨keep1 hb5 ?_, keep1 hb5 ?_, keep1 hb5 ?_, keep1 hb5 ?_⟩ <;> go_keep))
       (first | (go_at_call 61; refine (Hcl.out W3.drew (hv.out.next (belN B1 (b2.trans (b3'.mono b2.size))).drew)).mono ?_; rintro e w5 ⟨rfl, hb5⟩))
      have b5 := b3'.drew.trans (hb5.mono b3'.size)
      clear v0 v1 e0 f2
      by_cases hp0 : p.size = 0
      ·have hpe := empty_list p hp0
       have Hn := Lib.hid (show textE t a es q (j + 1) = t ++ sep ++ e3 by rw [Hst.out, <- hp.out]; unfold tpick; rw [if_pos (.inl hp0)])
       clear hp0
       go_wp2
       go_roundw
       case rel => exact ⟨j + 1, t ++ sep ++ e3, by omega, by go_num, rfl, Hn.out.symm, b5⟩
       case measure => simp [intOf]; omega
      ·have hpe := not_empty p (by omega)
       rcases hl : Op.bytesLess (t ++ sep ++ e3).toList p.toList with _ | _
       ·have Hn := Lib.hid (show textE t a es q (j + 1) = p by rw [Hst.out, <- hp.out]; unfold tpick; rw [if_neg (by rintro (h | h); exact hp0 h; rw [hl] at h; cases h)])
        have hl2 : Op.bytesLess (t ++ (⟨#[47]⟩ : ByteArray) ++ e3).toList p.toList = false := hl
        clear hp0 hl
        go_wp2
        go_roundw
        case rel => exact ⟨j + 1, p, by omega, by go_num, rfl, Hn.out.symm, b5⟩
        case measure => simp [intOf]; omega
       ·have Hn := Lib.hid (show textE t a es q (j + 1) = t ++ sep ++ e3 by rw [Hst.out, <- hp.out]; unfold tpick; rw [if_pos (.inr hl)])
        have hl2 : Op.bytesLess (t ++ (⟨#[47]⟩ : ByteArray) ++ e3).toList p.toList = true := hl
        clear hp0 hl
        go_wp2
        go_roundw
        case rel => exact ⟨j + 1, t ++ sep ++ e3, by omega, by go_num, rfl, Hn.out.symm, b5⟩
        case measure => simp [intOf]; omega
     ·have hed2 : (ed != a) = true := by simpa using hed
      have Hn := Lib.hid (show p = textE t a es q (j + 1) by rw [Hno.out hed]; exact hp.out)
      clear hed
      go_wp2
      go_roundw
      case rel => exact ⟨j + 1, p, by omega, by go_num, rfl, Hn.out, hbel2.alloc hbel2.size _⟩
      case measure => simp [intOf]; omega
    ·obtain rfl : j = m := by omega
     have Hn := Lib.hid (show p = textI xs T a (k + 1) by rw [Hs.out, hp.out, hq.out])
     go_wp2
     go_roundw
     case rel => exact ⟨k + 1, p, by omega, by go_num, rfl, Hn.out, b2.trans (hbel2.mono b2.size)⟩
     case measure => simp [intOf]; omega
  ·obtain rfl : k = n := by omega
   go_wp2
   go_ret
   exact ⟨ret_str (hq.out.trans HR.out), belN B1 hbel⟩

/-- The text of a directory, held to a bound. -/
noncomputable def txtT (xs : List InoD) (i : Int) : ByteArray := if (txt xs i).size <= 40000000 then txt xs i else ⟨#[]⟩
theorem txtT_bd (xs : List InoD) (i : Int) : (txtT xs i).size <= 40000000 := by
 unfold txtT; split
 ·assumption
 ·show 0 <= _; omega
theorem pth_size {xs : List InoD} (hzs : ∀ x ∈ xs, ∀ e ∈ x.es, e.s.size <= 2000000) {a : Int} {n : Nat} {t : ByteArray} (h : Pth xs a n t) : t.size <= n * 2000001 := by
 induction h with
 | root => show 0 <= _; omega
 | @step x e n t hx he _ _ ih =>
  have := hzs x hx e he
  rw [ByteArray.size_append, ByteArray.size_append, str_size]
  simp only [List.length_singleton]
  omega
theorem txtT_dir {nx : Int} {xs : List InoD} (h : VolP nx xs) (hzs : ∀ x ∈ xs, ∀ e ∈ x.es, e.s.size <= 2000000) {a : Int} (hd : IsDirI xs a) : txtT xs a = txt xs a := by
 obtain ⟨y, hy, h1, h2⟩ := hd
 obtain ⟨n, t, hp⟩ := h.pth hy
 rw [h1] at hp
 have hd : IsDirI xs a := ⟨y, hy, h1, h2⟩
 have h3 := pth_size hzs hp
 have h4 := hp.short h hd
 unfold txtT
 rw [txt_is h hp hd, if_pos (by omega)]
/-- Above a directory stands one alone, with one name. -/
theorem up_text {nx : Int} {xs : List InoD} (h : VolP nx xs) {a : Int} (ha : a ≠ 1) (hd : IsDirI xs a) : ∃ b, IsDirI xs b /\ dpt xs a = dpt xs b + 1 /\ (∀ x ∈ xs, hasE a x.es = true -> x.id = b) /\ ∀ (T : Int -> ByteArray), T b = txt xs b -> textI xs T a xs.length = txt xs a := by
 obtain ⟨x, hx, e, he, hea, hdx, hp, h1, h2⟩ := dir_up h ha hd
 refine ⟨x.id, hdx, h1, fun y hy hh => ?_, fun T hT => ?_⟩
 ·obtain ⟨f, hf, hfa⟩ := hasE_iff.1 hh
  have hm := pairs_mem.2 ⟨y, hy, f, hf, hfa, rfl⟩
  rw [hp, List.mem_singleton] at hm
  injection hm
 ·rw [textI_all, hp, h2]
  unfold foldT
  simp only [List.foldl_cons, List.foldl_nil, hT]
  unfold tpick
  rw [if_pos (.inl rfl)]
  rfl
theorem text_root {nx : Int} {xs : List InoD} (h : VolP nx xs) (T : Int -> ByteArray) : textI xs T 1 xs.length = txt xs 1 /\ ∀ x ∈ xs, hasE 1 x.es = false := by
 have hno : ∀ x ∈ xs, hasE 1 x.es = false := fun x hx => by
  cases hh : hasE 1 x.es with
  | false => rfl
  | true =>
   obtain ⟨e, he, h1⟩ := hasE_iff.1 hh
   exact absurd h1 (h.not1 hx he).1
 refine ⟨?_, hno⟩
 have : pairs xs 1 = [] := by
  rw [List.eq_nil_iff_forall_not_mem]
  intro p hp
  obtain ⟨x, hx, e, he, h1, _⟩ := pairs_mem.1 hp
  exact (h.not1 hx he).1 h1
 rw [textI_all, this, txt_one h]
 rfl

theorem textOf_dir (v : Value) (V : VolD) (hn : V.xs.length <= 10000000) (hz : ∀ x ∈ V.xs, x.es.length <= 10000000) (hzs : ∀ x ∈ V.xs, ∀ e ∈ x.es, e.s.size <= 2000000) (hp : VolP V.nx V.xs) : ∀ (n : Nat) (a : Int), IsDirI V.xs a -> dpt V.xs a = n -> ∀ (w : World), IsVol w v V ->
  Calls Tryz.prog 61 #[v, .int .i64 a] w fun e w' => e = .returned (.string (txt V.xs a)) /\ Below w.heap.size w w' := by
 intro n
 have root : ∀ (w : World), IsVol w v V -> Calls Tryz.prog 61 #[v, .int .i64 1] w fun e w' => e = .returned (.string (txt V.xs 1)) /\ Below w.heap.size w w' := fun w h => by
  obtain ⟨h1, h2⟩ := text_root hp (fun _ => ⟨#[]⟩)
  rw [<- h1]
  exact textOf_gen v V hn hz hzs (fun _ => ⟨#[]⟩) (fun _ => by show 0 <= _; omega) 1 w h fun x hx hh => by rw [h2 x hx] at hh; cases hh
 induction n with
 | zero =>
  intro a hd h0 w h
  by_cases ha : a = 1
  ·subst ha; exact root w h
  ·obtain ⟨b, _, h1, _⟩ := up_one hp ha hd
   omega
 | succ n ih =>
  intro a hd h0 w h
  by_cases ha : a = 1
  ·subst ha; exact root w h
  ·obtain ⟨b, hb, h1, hall, ht⟩ := up_text hp ha hd
   rw [<- ht (txtT V.xs) (txtT_dir hp hzs hb)]
   refine textOf_gen v V hn hz hzs (txtT V.xs) (txtT_bd V.xs) a w h fun x hx hh W hW => ?_
   rw [hall x hx hh, txtT_dir hp hzs hb]
   exact ih b hb (by omega) W hW
theorem textOf_any (v : Value) (V : VolD) (hn : V.xs.length <= 10000000) (hz : ∀ x ∈ V.xs, x.es.length <= 10000000) (hzs : ∀ x ∈ V.xs, ∀ e ∈ x.es, e.s.size <= 2000000) (hp : VolP V.nx V.xs) (a : Int) (w : World) (h : IsVol w v V) :
  Calls Tryz.prog 61 #[v, .int .i64 a] w fun e w' => e = .returned (.string (textI V.xs (txtT V.xs) a V.xs.length)) /\ Below w.heap.size w w' := by
 refine textOf_gen v V hn hz hzs (txtT V.xs) (txtT_bd V.xs) a w h fun x hx hh W hW => ?_
 have hd := up_is hp hx hh
 rw [txtT_dir hp hzs hd]
 exact textOf_dir v V hn hz hzs hp _ x.id hd rfl W hW

/-- What PathOf gives. -/
noncomputable def pathP (V : VolD) (a : Int) : ByteArray × Bool :=
 if volOkB V.nx V.xs = true /\ 0 <= plc V.xs a then (if a = 1 then (⟨#[47]⟩, true) else (textI V.xs (txtT V.xs) a V.xs.length, true)) else (⟨#[]⟩, false)
theorem path_end {V : VolD} {a : Int} {s : ByteArray} {b : Bool} (h : pathP V a = (s, b)) {v : Value} (hv : v = .tuple #[.string s, .bool b]) : Ending.returned v = .returned (.tuple #[.string (pathP V a).1, .bool (pathP V a).2]) := by rw [hv, h]

theorem pathOf_impl (v : Value) (V : VolD) (sm : szV V <= 1048576) (a : Int) (w : World) (hT : Tab w) (hC : IsVolC w v V) :
  Calls Tryz.prog 21 #[v, .int .i64 a] w fun e w' => e = .returned (.tuple #[.string (pathP V a).1, .bool (pathP V a).2]) /\ Below w.heap.size w w' := by
 have Hok := Lib.hid (fun W hT hW => volOk_impl v V sm W hT hW)
 have Hat := Lib.hid (fun W hW => at_impl v V (v_len sm) a W hW)
 have Hd := Lib.hid (fun hp W hW => textOf_any v V (v_len sm) (v_rows sm) (fun x hx => v_names sm hx) hp a W hW)
 have hv := Lib.hid hC
 have HT := Lib.hid hT
 have h := hC.is
 obtain ⟨A, c, rfl, h⟩ := h
 obtain ⟨nx, xs⟩ := V
 simp only at Hok Hat Hd
 clear h hT sm hC
 obtain ⟨n, hn'⟩ : ∃ n, xs.length = n := ⟨_, rfl⟩
 have HL := Lib.hid hn'
 simp only [hn'] at Hok Hat Hd hv ⊢
 clear hn'
 obtain ⟨R, hR⟩ : ∃ R, textI xs (txtT xs) a n = R := ⟨_, rfl⟩
 have HR := Lib.hid hR
 simp only [hR] at Hd
 clear hR
 obtain ⟨W1, hW1⟩ : ∃ W1, w.alloc (.cells #[.int .i64 nx, .slice A n c] 26) = W1 := ⟨_, rfl⟩
 have B1 : Below w.heap.size w W1 := by rw [<- hW1]; exact belA (bel0 w) _
 have hV : Blk W1 w.heap.size 26 #[.int .i64 nx, .slice A n c] := by rw [<- hW1]; exact Blk.new' _ _ _ _ rfl
 have HW1 := Lib.hid hW1
 have V0 := Lib.hid (hV.get 0 rfl)
 have V1 := Lib.hid (hV.get 1 rfl)
 clear hW1 hV
 rcases hok : volOkB nx xs with _ | _
 ·have Hf := Lib.hid (show pathP ⟨nx, xs⟩ a = (⟨#[]⟩, false) by unfold pathP; simp [hok])
  go_enter Tryz.func21, Tryz.ntmps21
  go_wp2_with fail
  rw [HW1.out]
  refine (Hok.out W1 (HT.out.bl B1) (hv.out.next B1)).mono ?_
  rintro e w2 ⟨rfl, hb2⟩
  rw [hok]
  go_wp2
  refine bodyPost_ret (v := .tuple #[.string ⟨#[]⟩, .bool false]) (by simp [results, Tryz.results21, go_sem]) rfl ⟨path_end Hf.out rfl, belN B1 hb2⟩
 ·have hp := volOkB_iff.1 hok
  obtain ⟨p, hpl⟩ : ∃ p, plc xs a = p := ⟨_, rfl⟩
  have Hpl := Lib.hid hpl
  simp only [hpl] at Hat
  have Hd2 := Lib.hid (Hd.out hp)
  clear hp hpl
  have Hok2 := Lib.hid hok
  clear hok
  by_cases hp0 : p < 0
  ·have Hf := Lib.hid (show pathP ⟨nx, xs⟩ a = (⟨#[]⟩, false) by unfold pathP; rw [if_neg]; simp only; rw [Hpl.out]; omega)
   go_enter Tryz.func21, Tryz.ntmps21
   go_wp2_with fail
   rw [HW1.out]
   refine (Hok.out W1 (HT.out.bl B1) (hv.out.next B1)).mono ?_
   rintro e w2 ⟨rfl, hb2⟩
   rw [Hok2.out]
   have v0 := keep1 hb2 V0.out (Nat.le_refl _)
   have v1 := keep1 hb2 V1.out (Nat.le_refl _)
   go_wp2_with fail
   refine (Hat.out w2 (hv.out.next (belN B1 hb2)).is).mono ?_
   rintro e w3 ⟨rfl, hb3⟩
   clear v0 v1
   go_wp2
   refine bodyPost_ret (v := .tuple #[.string ⟨#[]⟩, .bool false]) (by simp [results, Tryz.results21, go_sem]) rfl ⟨path_end Hf.out rfl, belN B1 (hb2.trans (hb3.mono hb2.size))⟩
  ·by_cases ha : a = 1
   ·have Hf := Lib.hid (show pathP ⟨nx, xs⟩ a = (⟨#[47]⟩, true) by
     unfold pathP
     rw [if_pos (show volOkB nx xs = true /\ 0 <= plc xs a from ⟨Hok2.out, by rw [Hpl.out]; omega⟩), if_pos ha])
    subst ha
    go_enter Tryz.func21, Tryz.ntmps21
    go_wp2_with fail
    rw [HW1.out]
    refine (Hok.out W1 (HT.out.bl B1) (hv.out.next B1)).mono ?_
    rintro e w2 ⟨rfl, hb2⟩
    rw [Hok2.out]
    have v0 := keep1 hb2 V0.out (Nat.le_refl _)
    have v1 := keep1 hb2 V1.out (Nat.le_refl _)
    go_wp2_with fail
    refine (Hat.out w2 (hv.out.next (belN B1 hb2)).is).mono ?_
    rintro e w3 ⟨rfl, hb3⟩
    clear v0 v1
    go_wp2
    refine bodyPost_ret (v := .tuple #[.string ⟨#[47]⟩, .bool true]) (by simp [results, Tryz.results21, go_sem]) rfl ⟨path_end Hf.out rfl, belN B1 (hb2.trans (hb3.mono hb2.size))⟩
   ·have Hf := Lib.hid (show pathP ⟨nx, xs⟩ a = (R, true) by
     unfold pathP
     rw [if_pos (show volOkB nx xs = true /\ 0 <= plc xs a from ⟨Hok2.out, by rw [Hpl.out]; omega⟩), if_neg ha]
     simp only; rw [HL.out, HR.out])
    have ha1 : (a == 1) = false := by simpa using ha
    clear ha
    go_enter Tryz.func21, Tryz.ntmps21
    go_wp2_with fail
    rw [HW1.out]
    refine (Hok.out W1 (HT.out.bl B1) (hv.out.next B1)).mono ?_
    rintro e w2 ⟨rfl, hb2⟩
    rw [Hok2.out]
    have v0 := keep1 hb2 V0.out (Nat.le_refl _)
    have v1 := keep1 hb2 V1.out (Nat.le_refl _)
    go_wp2_with fail
    refine (Hat.out w2 (hv.out.next (belN B1 hb2)).is).mono ?_
    rintro e w3 ⟨rfl, hb3⟩
    have b3 := hb2.trans (hb3.mono hb2.size)
    clear v0 v1
    have v0 := keep1 b3 V0.out (Nat.le_refl _)
    have v1 := keep1 b3 V1.out (Nat.le_refl _)
    go_wp2_with fail
    refine (Hd2.out w3 (hv.out.next (belN B1 b3)).is).mono ?_
    rintro e w4 ⟨rfl, hb4⟩
    clear v0 v1
    go_wp2
    refine bodyPost_ret (v := .tuple #[.string R, .bool true]) (by simp [results, Tryz.results21, go_sem]) rfl ⟨path_end Hf.out rfl, belN (belN B1 b3) hb4⟩

end Go.Proofs.YtjjniapamdleoaaGreatDoor
