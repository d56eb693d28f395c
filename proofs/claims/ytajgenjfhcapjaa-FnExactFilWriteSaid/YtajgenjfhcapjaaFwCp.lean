/- Copies of a store and of a file: the walks of both sides. -/
import Derived.Test.YtajgenjfhcapjaaFwFil2
namespace Go.Proofs.Ytajgenjfhcapjaa
open Go Go.RowKit

/-- A store, a file, in rows of the call's own. -/
def OwnSto (lo : Nat) (v : Value) (S : StoD) (w : World) : Prop := ∃ v1 v2, v = .agg #[v1, v2] ∧ w.ownsRow lo 4 1 v1 S.bs.length (BS S.bs) ∧ w.ownsRow lo 9 1 v2 S.ds.length (SS S.ds)
def OwnFil (lo : Nat) (v : Value) (F : FilD) (w : World) : Prop := ∃ v1, v = .agg #[.int .i64 F.sz, v1] ∧ w.ownsRow lo 76 3 v1 F.xs.length (XS F.xs)
theorem OwnSto.sto {lo : Nat} {v : Value} {S : StoD} {w : World} (h : OwnSto lo v S w) : IsSto w v S := by
  obtain ⟨v1, v2, rfl, h1, h2⟩ := h
  obtain ⟨A1, c1, rfl, _, _, r1⟩ := own_vals h1
  obtain ⟨A2, c2, rfl, _, _, r2⟩ := own_vals h2
  exact ⟨A1, c1, A2, c2, rfl, r1, r2⟩
theorem OwnFil.fil {lo : Nat} {v : Value} {F : FilD} {w : World} (h : OwnFil lo v F w) : IsFil w v F := by
  obtain ⟨v1, rfl, h1⟩ := h
  obtain ⟨A1, c1, rfl, _, _, r1⟩ := own_vals h1
  exact ⟨A1, c1, rfl, r1⟩
theorem OwnSto.next {lo : Nat} {v : Value} {S : StoD} {w w' : World} (h : OwnSto lo v S w) (hb : Below w.heap.size w w') : OwnSto lo v S w' := by
  obtain ⟨v1, v2, rfl, h1, h2⟩ := h
  exact ⟨v1, v2, rfl, own_below h1 hb (Nat.le_refl _), own_below h2 hb (Nat.le_refl _)⟩
theorem OwnFil.next {lo : Nat} {v : Value} {F : FilD} {w w' : World} (h : OwnFil lo v F w) (hb : Below w.heap.size w w') : OwnFil lo v F w' := by
  obtain ⟨v1, rfl, h1⟩ := h
  exact ⟨v1, rfl, own_below h1 hb (Nat.le_refl _)⟩
theorem OwnSto.more {lo lo' : Nat} {v : Value} {S : StoD} {w : World} (h : OwnSto lo v S w) (hl : lo' ≤ lo) : OwnSto lo' v S w := by
  obtain ⟨v1, v2, rfl, h1, h2⟩ := h
  exact ⟨v1, v2, rfl, own_more h1 hl, own_more h2 hl⟩
theorem OwnFil.more {lo lo' : Nat} {v : Value} {F : FilD} {w : World} (h : OwnFil lo v F w) (hl : lo' ≤ lo) : OwnFil lo' v F w := by
  obtain ⟨v1, rfl, h1⟩ := h
  exact ⟨v1, rfl, own_more h1 hl⟩
theorem own_farT {w : World} {base n size : Nat} {e t : TypeId} {v : Value} {xs : List Value} (h : w.ownsRow base e size v n xs) {g : Nat} {cs : Array Value} (hg : Blk w g t cs) (hne : e ≠ t) (o : Nat) (u : Value) : (w.setCell ⟨g, o, none⟩ u).ownsRow base e size v n xs := by
  refine ⟨h.1, ?_⟩
  have hx := own_blk_ne h hg hne
  rcases h.2 with h2 | ⟨g', cap, cur, hv, hb, hh, r⟩
  · exact .inl h2
  · refine .inr ⟨g', cap, cur, hv, hb, (Below.heap_setCell w ⟨g, o, none⟩ u g' (fun e => hx ?_)).trans hh, r⟩
    rw [hv]
    simp only at e
    rw [← e]; rfl
theorem OwnSto.farS {lo : Nat} {v : Value} {S : StoD} {w : World} (h : OwnSto lo v S w) {g : Nat} {cs : Array Value} (hg : Blk w g 31 cs) (o : Nat) (u : Value) : OwnSto lo v S (w.setCell ⟨g, o, none⟩ u) := by
  obtain ⟨v1, v2, rfl, h1, h2⟩ := h
  exact ⟨v1, v2, rfl, own_farT h1 hg (by decide) o u, own_farT h2 hg (by decide) o u⟩
theorem OwnSto.farF {lo : Nat} {v : Value} {S : StoD} {w : World} (h : OwnSto lo v S w) {g : Nat} {cs : Array Value} (hg : Blk w g 34 cs) (o : Nat) (u : Value) : OwnSto lo v S (w.setCell ⟨g, o, none⟩ u) := by
  obtain ⟨v1, v2, rfl, h1, h2⟩ := h
  exact ⟨v1, v2, rfl, own_farT h1 hg (by decide) o u, own_farT h2 hg (by decide) o u⟩
theorem OwnFil.farS {lo : Nat} {v : Value} {F : FilD} {w : World} (h : OwnFil lo v F w) {g : Nat} {cs : Array Value} (hg : Blk w g 31 cs) (o : Nat) (u : Value) : OwnFil lo v F (w.setCell ⟨g, o, none⟩ u) := by
  obtain ⟨v1, rfl, h1⟩ := h
  exact ⟨v1, rfl, own_farT h1 hg (by decide) o u⟩
theorem OwnFil.farF {lo : Nat} {v : Value} {F : FilD} {w : World} (h : OwnFil lo v F w) {g : Nat} {cs : Array Value} (hg : Blk w g 34 cs) (o : Nat) (u : Value) : OwnFil lo v F (w.setCell ⟨g, o, none⟩ u) := by
  obtain ⟨v1, rfl, h1⟩ := h
  exact ⟨v1, rfl, own_farT h1 hg (by decide) o u⟩

section
variable {P : Program} (w : World)
/-- append at a step of a drawn region. -/
theorem step_appX {ops : Array Oper} {o : Oper} {a : Act} {K : Act → World → Prop} {Q : Exit → Act → World → Prop} {E : Prop} (hgd : o.guard = none) (s x : Operand) (t : TypeId)
    (ho : o.op = .call { callee := .builtin .append, args := #[s, x], argTypes := #[t, t] })
    {e : TypeId} {z : Value} {size bytes : Nat} (hE : ElemOk P t e z size bytes)
    {base : Nat} {v : Value} {n : Nat} {xs : List Value} (hown : w.ownsRow base e size v n xs) (hs : a.eval s = v)
    {B : Nat} {A : Option Addr} {m c : Nat} {news : List Value} (hr : Reads w B size A m news) (hx : a.eval x = .slice A m c) (h1 : ∀ u ∈ news, u.oneCell' = true)
    (h63 : n + m ≤ maxLen) (hbytes : (n + m) * bytes ≤ 140737488355328) (hbase : base ≤ w.heap.size)
    (h : ∀ v' w', w'.ownsRow base e size v' (n + m) (xs ++ news) → w.grownBy w' v.ownBlock → (v'.ownBlock = v.ownBlock ∨ v'.ownBlock = some w.heap.size) → Below base w w' → K (a.put o.dst v') w') :
    if Region.wanted o (yielded ops a.tmps) = true then Oper.wp P o a w K Q else E := by
  obtain ⟨i, hi, hz, hsize, hby⟩ := info_parts hE.hi
  exact step_append_any w hgd s x t ho base e i z size bytes hE.ht hi hz hsize hby hE.hzs hE.hsz v n xs hs hown B A m c news hx hr h1 h63 hbytes hbase fun v' w' h2 h3 h4 => h v' w' h2 h3 h4 (below_grownBy hown h3 hbase)
end

set_option maxHeartbeats 400000 in
theorem copyTexts_any (A : Option Addr) (n c : Nat) (ds : List ByteArray) (hn : n ≤ 10000000) (w : World) (hr : Reads w w.heap.size 1 A n (SS ds)) :
    Calls Try.prog 57 #[.slice A n c] w fun e w' => ∃ v, e = .returned v ∧ w'.ownsRow w.heap.size 9 1 v n (SS ds) ∧ Below w.heap.size w w' := by
  have Hr := Lib.hid hr
  clear hr
  go_enter Try.func57, Try.ntmps57
  go_wp2_with (at_builtin; go_must (refine wpList_app _ rfl _ _ _ rfl Try.el_str (World.ownsRow_nil _ w.heap.size _ _) rfl Hr.out rfl (SS_cells ds) (max_small (by omega)) (by omega) (Nat.le_refl _) ?_); intro v1 w1 own1 hg1 _ hb1)
  go_ret
  exact ⟨_, rfl, by simpa using own1, hb1⟩

theorem own_lit0 (w : World) (e : TypeId) (size base : Nat) (hb : base ≤ w.heap.size) : (w.alloc (.cells #[] e)).ownsRow base e size (.slice (some ⟨w.heap.size, 0, none⟩) 0 0) 0 [] :=
  own_more (World.ownsRow_lit (e := e) (size := size) w #[] 0 (Nat.le_refl _) (by unfold maxLen; omega) (by simp)) hb
theorem own_keepG {w w' : World} {base n size g : Nat} {e : TypeId} {v : Value} {xs : List Value} (h : w.ownsRow base e size v n xs) (hg : w.grownBy w' (some g)) (hne : v.ownBlock ≠ some g) : w'.ownsRow base e size v n xs := by
  refine ⟨h.1, ?_⟩
  rcases h.2 with h2 | ⟨g', cap, cur, rfl, hb, hh, r⟩
  · exact .inl h2
  · exact .inr ⟨g', cap, cur, rfl, hb, (hg.block g' (Array.getElem?_eq_some_iff.1 hh).1 (fun e => hne (by rw [← e]; rfl))).trans hh, r⟩
theorem own_grT {w w' : World} {base n size : Nat} {e : TypeId} {v : Value} {xs : List Value} (h : w.ownsRow base e size v n xs) {base' n' size' c' g : Nat} {e' : TypeId} {xs' : List Value}
    (hr : w.ownsRow base' e' size' (.slice (some ⟨g, 0, none⟩) n' c') n' xs') (hg : w.grownBy w' (Value.slice (some ⟨g, 0, none⟩) n' c').ownBlock) (hne : e ≠ e') : w'.ownsRow base e size v n xs := by
  obtain ⟨_, cur, hh, _⟩ := own_some hr
  exact own_keepG h hg (own_blk_ne h (g := g) hh hne)
theorem blk_grT {w w' : World} {g0 : Nat} {t : TypeId} {cs : Array Value} (h : Blk w g0 t cs) {base' n' size' c' g : Nat} {e' : TypeId} {xs' : List Value}
    (hr : w.ownsRow base' e' size' (.slice (some ⟨g, 0, none⟩) n' c') n' xs') (hg : w.grownBy w' (Value.slice (some ⟨g, 0, none⟩) n' c').ownBlock) (hne : t ≠ e') : Blk w' g0 t cs := by
  obtain ⟨_, cur, hh, _⟩ := own_some hr
  refine (hg.block g0 h.lt (fun e => ?_)).trans h
  have e2 : g0 = g := by simpa [Value.ownBlock] using e
  subst e2
  exact Blk.ne_ (t := t) (t' := e') h hh hne rfl
theorem below_none {w w' : World} (hg : w.grownBy w' (Value.slice none 0 0).ownBlock) : Below w.heap.size w w' := ⟨hg.os, hg.tape, hg.output, hg.size, fun i hi => hg.block i hi (by simp [Value.ownBlock])⟩
theorem cellB {w w' : World} {B : Nat} {b o : Nat} {x : Value} (hb : Below B w w') (hl : b < B) (h : w.cell? ⟨b, o, none⟩ = some x) : w'.cell? ⟨b, o, none⟩ = some x := (hb.cell (p := ⟨b, o, none⟩) hl).trans h

set_option maxRecDepth 100000 in
set_option maxHeartbeats 2000000 in
theorem copyStore_impl (v : Value) (S : StoD) (hS : StoSm S) (w : World) (h : IsSto w v S) :
    Calls Try.prog 30 #[v] w fun e w' => ∃ v', e = .returned v' ∧ OwnSto w.heap.size v' S w' ∧ Below w.heap.size w w' := by
  obtain ⟨A1, c1, A2, c2, rfl, r1, r2⟩ := h
  obtain ⟨hs1, hs2, _⟩ := hS
  obtain ⟨n1, hl1⟩ : ∃ n, S.bs.length = n := ⟨_, rfl⟩
  obtain ⟨n2, hl2⟩ : ∃ n, S.ds.length = n := ⟨_, rfl⟩
  have Hr1 := Lib.hid (fun W (hb : Below w.heap.size w W) => r1.nxt hb)
  have Hr2 := Lib.hid (fun W (hb : Below w.heap.size w W) => r2.nxt hb)
  rw [hl1] at Hr1 hs1
  rw [hl2] at Hr2 hs2
  rw [hl1, hl2]
  have Hl1 := Lib.hid hl1
  have Hl2 := Lib.hid hl2
  clear r1 r2 hl1 hl2
  obtain ⟨W1, hW1⟩ : ∃ W1, (w.alloc (.cells #[.slice A1 n1 c1, .slice A2 n2 c2] 31)).alloc (.cells #[.slice none 0 0, .slice none 0 0] 31) = W1 := ⟨_, rfl⟩
  have X : Blk W1 w.heap.size 31 #[.slice A1 n1 c1, .slice A2 n2 c2] := by rw [← hW1]; exact (Blk.new' _ _ _ _ rfl).alloc _
  have Y : Blk W1 (w.heap.size + 1) 31 #[.slice none 0 0, .slice none 0 0] := by rw [← hW1]; exact Blk.new' _ _ _ _ (by simp)
  have B1 : Below w.heap.size w W1 := by rw [← hW1]; exact belA (belA (bel0 w) _) _
  go_enter Try.func30, Try.ntmps30
  go_wp2_with fail
  try rw [hW1]
  clear hW1
  have x0 := X.get (x := .slice A1 n1 c1) 0 rfl
  have x1 := X.get (x := .slice A2 n2 c2) 1 rfl
  have lX := X.lt
  have lY := Y.lt
  have HX := Lib.hid X
  have HY := Lib.hid Y
  clear X Y
  go_region_held3 (fun w' => w'.cell? ⟨w.heap.size, 0, none⟩ = some (.slice A1 n1 c1) ∧ w'.cell? ⟨w.heap.size, 1, none⟩ = some (.slice A2 n2 c2)) (first | go_keep | (refine ⟨keep1 hb2 ?_, keep1 hb2 ?_⟩ <;> go_keep) | (refine ⟨keep1 hb3 ?_, keep1 hb3 ?_⟩ <;> go_keep))
    (first
      | (go_at_call 57; refine (copyTexts_any A2 n2 c2 S.ds hs2 _ (Hr2.out _ (belN B1.drew hb2))).mono ?_; rintro e w3 ⟨_, rfl, own3, hb3⟩; obtain ⟨D3, d3, rfl, _, _, _⟩ := own_vals own3; have Y3 := (HY.out.drew.below hb2 HY.out.drew.lt).below hb3 (HY.out.drew.below hb2 HY.out.drew.lt).lt; have y0 := Y3.get (x := .slice none 0 0) 0 rfl; have y1 := Y3.get (x := .slice none 0 0) 1 rfl; have f0 := Y3.frozen 0; have f1 := Y3.frozen 1; have lY3 := Y3.lt)
      | (refine step_appX _ (by rfl) _ _ 22 (by rfl) Try.el_bool (World.ownsRow_nil _ W1.heap.size _ _) (by rfl) (Hr1.out _ B1.drew) (by rfl) (BS_cells S.bs) (max_small (by omega)) (by omega) (Nat.le_refl _) ?_; intro v2 w2 own2 hg2 _ hb2; rw [Nat.zero_add, List.nil_append] at own2; obtain ⟨D2, d2, rfl, _, _, _⟩ := own_vals own2))
  have Y3s := (Y3.put 0 (.slice D2 n1 d2) #[.slice D2 n1 d2, .slice none 0 0] rfl).put 1 (.slice D3 n2 d3) #[.slice D2 n1 d2, .slice D3 n2 d3] rfl
  have O2 := own_farT (own_farT (own_more (own_below own2 hb3 (Nat.le_refl _)) B1.size) Y3 (by decide) 0 (.slice D2 n1 d2)) (Y3.put 0 _ _ rfl) (by decide) 1 (.slice D3 n2 d3)
  have O3 := own_farT (own_farT (own_more own3 (by have := B1.size; have := hb2.size; exact Nat.le_trans B1.size (hb2.size))) Y3 (by decide) 0 (.slice D2 n1 d2)) (Y3.put 0 _ _ rfl) (by decide) 1 (.slice D3 n2 d3)
  have B4 := belC (belC (belN (belN B1.drew hb2) hb3) (w.heap.size + 1) 0 (by omega) (.slice D2 n1 d2)) (w.heap.size + 1) 1 (by omega) (.slice D3 n2 d3)
  obtain ⟨W4, hW4⟩ : ∃ W, (w3.setCell ⟨w.heap.size + 1, 0, none⟩ (.slice D2 n1 d2)).setCell ⟨w.heap.size + 1, 1, none⟩ (.slice D3 n2 d3) = W := ⟨_, rfl⟩
  rw [hW4] at Y3s B4 O2 O3 ⊢
  have r0 := Y3s.get (x := .slice D2 n1 d2) 0 rfl
  have r1 := Y3s.get (x := .slice D3 n2 d3) 1 rfl
  clear hW4 Y3 y0 y1 f0 f1 x0 x1
  go_wp2
  refine bodyPost_ret (v := .agg #[.slice D2 n1 d2, .slice D3 n2 d3]) (by simp [results, Try.results30, go_sem, r0, r1]) rfl ⟨_, rfl, ⟨_, _, rfl, ?_, ?_⟩, B4⟩
  · rw [Hl1.out]; exact O2
  · rw [Hl2.out]; exact O3

set_option maxRecDepth 100000 in
set_option maxHeartbeats 2000000 in
theorem copyStore_spec (v : Value) (S : StoD) (hS : StoSm S) (w : World) (h : IsSto w v S) :
    Calls Try.prog 20 #[v] w fun e w' => ∃ v', e = .returned v' ∧ OwnSto w.heap.size v' S w' ∧ Below w.heap.size w w' := by
  obtain ⟨A1, c1, A2, c2, rfl, r1, r2⟩ := h
  obtain ⟨hs1, hs2, _⟩ := hS
  obtain ⟨n1, hl1⟩ : ∃ n, S.bs.length = n := ⟨_, rfl⟩
  obtain ⟨n2, hl2⟩ : ∃ n, S.ds.length = n := ⟨_, rfl⟩
  have Hr1 := Lib.hid (fun W (hb : Below w.heap.size w W) => r1.nxt hb)
  have Hr2 := Lib.hid (fun W (hb : Below w.heap.size w W) => r2.nxt hb)
  rw [hl1] at Hr1 hs1
  rw [hl2] at Hr2 hs2
  rw [hl1, hl2]
  have Hl1 := Lib.hid hl1
  have Hl2 := Lib.hid hl2
  clear r1 r2 hl1 hl2
  obtain ⟨W1, hW1⟩ : ∃ W1, (w.alloc (.cells #[.slice A1 n1 c1, .slice A2 n2 c2] 31)).alloc (.cells #[.slice none 0 0, .slice none 0 0] 31) = W1 := ⟨_, rfl⟩
  have X : Blk W1 w.heap.size 31 #[.slice A1 n1 c1, .slice A2 n2 c2] := by rw [← hW1]; exact (Blk.new' _ _ _ _ rfl).alloc _
  have Y : Blk W1 (w.heap.size + 1) 31 #[.slice none 0 0, .slice none 0 0] := by rw [← hW1]; exact Blk.new' _ _ _ _ (by simp)
  have B1 : Below w.heap.size w W1 := by rw [← hW1]; exact belA (belA (bel0 w) _) _
  go_enter Try.func20, Try.ntmps20
  go_wp2_with fail
  try rw [hW1]
  clear hW1
  have x0 := X.get (x := .slice A1 n1 c1) 0 rfl
  have x1 := X.get (x := .slice A2 n2 c2) 1 rfl
  have lX := X.lt
  have lY := Y.lt
  have HX := Lib.hid X
  have HY := Lib.hid Y
  clear X Y
  refine wp_region_held_drew (S := fun w' => w'.cell? ⟨w.heap.size, 0, none⟩ = some (.slice A1 n1 c1) ∧ w'.cell? ⟨w.heap.size, 1, none⟩ = some (.slice A2 n2 c2)) (by kernel_rfl) (by exact ⟨(HX.out).get 0 rfl, (HX.out).get 1 rfl⟩) (fun hHeld => ?_)
  clear hHeld
  refine foldH ?_
  intro r0 hr0
  have bw0 : Below w.heap.size w r0 := by rw [hr0]; exact (B1).drew
  have kX0 : Blk r0 w.heap.size 31 #[.slice A1 n1 c1, .slice A2 n2 c2] := by rw [hr0]; exact HX.out.drew
  have kY0 : Blk r0 (w.heap.size + 1) 31 #[.slice none 0 0, .slice none 0 0] := by rw [hr0]; exact HY.out.drew
  clear hr0
  refine wpAnyH_take (i := 1) (oi := ?oi1) (v := ?v1) ?hi1 ?hs1 ?hf1 ?hr1 ?hQ1 ?hy1 ?hS1 ?hrest1
  case hi1 => (conv => lhs; simp only [List.getElem?_toArray, List.getElem?_cons_zero, List.getElem?_cons_succ]); try exact rfl
  case hs1 => kernel_rfl
  case hf1 => kernel_rfl
  case hr1 => kernel_rfl
  case hQ1 => exact fun _ _ _ h => h
  case hS1 => exact ⟨(kX0).get 0 rfl, (kX0).get 1 rfl⟩
  case hy1 => refine Or.inl ⟨by rfl, ?_⟩; intro w hSw; (try dsimp only at hSw); go_simp; (try with_reducible rfl)
  simp only [Act.put, List.setIfInBounds_toArray, List.set_cons_zero, List.set_cons_succ]
  refine wpAnyH_take (i := 2) (oi := ?oi2) (v := ?v2) ?hi2 ?hs2 ?hf2 ?hr2 ?hQ2 ?hy2 ?hS2 ?hrest2
  case hi2 => (conv => lhs; simp only [List.getElem?_toArray, List.getElem?_cons_zero, List.getElem?_cons_succ]); try exact rfl
  case hs2 => kernel_rfl
  case hf2 => kernel_rfl
  case hr2 => kernel_rfl
  case hQ2 => exact fun _ _ _ h => h
  case hS2 => exact ⟨(kX0).get 0 rfl, (kX0).get 1 rfl⟩
  case hy2 => refine Or.inl ⟨by rfl, ?_⟩; intro w hSw; (try dsimp only at hSw); go_simp; (try with_reducible rfl)
  simp only [Act.put, List.setIfInBounds_toArray, List.set_cons_zero, List.set_cons_succ]
  refine wpAnyH_take (i := 5) (oi := ?oi3) (v := ?v3) ?hi3 ?hs3 ?hf3 ?hr3 ?hQ3 ?hy3 ?hS3 ?hrest3
  case hi3 => (conv => lhs; simp only [List.getElem?_toArray, List.getElem?_cons_zero, List.getElem?_cons_succ]); try exact rfl
  case hs3 => kernel_rfl
  case hf3 => kernel_rfl
  case hr3 => kernel_rfl
  case hQ3 => exact fun _ _ _ h => h
  case hS3 => exact ⟨(kX0).get 0 rfl, (kX0).get 1 rfl⟩
  case hy3 => refine Or.inl ⟨by rfl, ?_⟩; intro w hSw; (try dsimp only at hSw); go_simp; (try with_reducible rfl)
  simp only [Act.put, List.setIfInBounds_toArray, List.set_cons_zero, List.set_cons_succ]
  refine wpAnyH_take (i := 6) (oi := ?oi4) (v := ?v4) ?hi4 ?hs4 ?hf4 ?hr4 ?hQ4 ?hy4 ?hS4 ?hrest4
  case hi4 => (conv => lhs; simp only [List.getElem?_toArray, List.getElem?_cons_zero, List.getElem?_cons_succ]); try exact rfl
  case hs4 => kernel_rfl
  case hf4 => kernel_rfl
  case hr4 => kernel_rfl
  case hQ4 => exact fun _ _ _ h => h
  case hS4 => exact ⟨(kX0).get 0 rfl, (kX0).get 1 rfl⟩
  case hy4 => refine Or.inl ⟨by rfl, ?_⟩; intro w hSw; (try dsimp only at hSw); go_simp; (try with_reducible rfl)
  simp only [Act.put, List.setIfInBounds_toArray, List.set_cons_zero, List.set_cons_succ]
  refine wpAnyH_ready (rs := [0, 4]) (by kernel_rfl) (by simp) ?_
  refine AllReadyH.cons (o := ?oi5) ?hi5 (fun K hK => ?br5) (AllReadyH.cons (o := ?oi6) ?hi6 (fun K hK => ?br6) AllReadyH.nil)
  case hi5 => (conv => lhs; simp only [List.getElem?_toArray, List.getElem?_cons_zero]); try exact rfl
  case hi6 => (conv => lhs; simp only [List.getElem?_toArray, List.getElem?_cons_zero, List.getElem?_cons_succ]); try exact rfl
  case br5 =>
    go_simp
    refine hK.out _ _ (by exact ⟨(kX0.alloc (.cells #[] 4)).get 0 rfl, (kX0.alloc (.cells #[] 4)).get 1 rfl⟩) (fun _ => ?_)
    clear hK K
    refine foldH ?_
    intro r1 hr1
    have bw1 : Below w.heap.size w r1 := by rw [hr1]; exact belA bw0 _
    have kX1 : Blk r1 w.heap.size 31 #[.slice A1 n1 c1, .slice A2 n2 c2] := by rw [hr1]; exact kX0.alloc _
    have kY1 : Blk r1 (w.heap.size + 1) 31 #[.slice none 0 0, .slice none 0 0] := by rw [hr1]; exact kY0.alloc _
    have oL11 : r1.ownsRow w.heap.size 4 1 (.slice (some ⟨r0.heap.size, 0, none⟩) 0 0) 0 [] := by rw [hr1]; exact own_lit0 _ _ _ _ bw0.size
    clear hr1
    refine wpAnyH_ready (rs := [3, 4]) (by kernel_rfl) (by simp) ?_
    refine AllReadyH.cons (o := ?oi7) ?hi7 (fun K hK => ?br7) (AllReadyH.cons (o := ?oi8) ?hi8 (fun K hK => ?br8) AllReadyH.nil)
    case hi7 => (conv => lhs; simp only [List.getElem?_toArray, List.getElem?_cons_zero, List.getElem?_cons_succ]); try exact rfl
    case hi8 => (conv => lhs; simp only [List.getElem?_toArray, List.getElem?_cons_zero, List.getElem?_cons_succ]); try exact rfl
    case br7 =>
      refine step_appX _ (by rfl) _ _ 22 (by rfl) Try.el_bool oL11 (by rfl) (Hr1.out _ bw1) (by rfl) (BS_cells S.bs) (max_small (by omega)) (by omega) bw1.size ?_
      intro vr2 r2 ow2 hg2 _ hb2r
      rw [Nat.zero_add, List.nil_append] at ow2
      obtain ⟨D2, D2c, rfl, _, _, _⟩ := own_vals ow2
      have bw2 : Below w.heap.size w r2 := bw1.trans hb2r
      have kX2 : Blk r2 w.heap.size 31 #[.slice A1 n1 c1, .slice A2 n2 c2] := blk_grT kX1 oL11 hg2 (by decide)
      have kY2 : Blk r2 (w.heap.size + 1) 31 #[.slice none 0 0, .slice none 0 0] := blk_grT kY1 oL11 hg2 (by decide)
      have oD22 : r2.ownsRow w.heap.size 4 1 (.slice D2 n1 D2c) n1 (BS S.bs) := ow2
      try simp only [Act.put, List.setIfInBounds_toArray, List.set_cons_zero, List.set_cons_succ]
      refine hK.out _ _ (by exact ⟨(kX2).get 0 rfl, (kX2).get 1 rfl⟩) (fun _ => ?_)
      clear hK K
      try simp only [Act.put, List.setIfInBounds_toArray, List.set_cons_zero, List.set_cons_succ]
      refine wpAnyH_ready (rs := [4]) (by kernel_rfl) (by simp) ?_
      refine AllReadyH.cons (o := ?oi9) ?hi9 (fun K hK => ?br9) AllReadyH.nil
      case hi9 => (conv => lhs; simp only [List.getElem?_toArray, List.getElem?_cons_zero, List.getElem?_cons_succ]); try exact rfl
      case br9 =>
        go_simp
        refine hK.out _ _ (by exact ⟨(kX2.alloc (.cells #[] 9)).get 0 rfl, (kX2.alloc (.cells #[] 9)).get 1 rfl⟩) (fun _ => ?_)
        clear hK K
        refine foldH ?_
        intro r3 hr3
        have bw3 : Below w.heap.size w r3 := by rw [hr3]; exact belA bw2 _
        have kX3 : Blk r3 w.heap.size 31 #[.slice A1 n1 c1, .slice A2 n2 c2] := by rw [hr3]; exact kX2.alloc _
        have kY3 : Blk r3 (w.heap.size + 1) 31 #[.slice none 0 0, .slice none 0 0] := by rw [hr3]; exact kY2.alloc _
        have oD23 : r3.ownsRow w.heap.size 4 1 (.slice D2 n1 D2c) n1 (BS S.bs) := by rw [hr3]; exact oD22.alloc _
        have oL23 : r3.ownsRow w.heap.size 9 1 (.slice (some ⟨r2.heap.size, 0, none⟩) 0 0) 0 [] := by rw [hr3]; exact own_lit0 _ _ _ _ bw2.size
        clear hr3
        refine wpAnyH_ready (rs := [7]) (by kernel_rfl) (by simp) ?_
        refine AllReadyH.cons (o := ?oi10) ?hi10 (fun K hK => ?br10) AllReadyH.nil
        case hi10 => (conv => lhs; simp only [List.getElem?_toArray, List.getElem?_cons_zero, List.getElem?_cons_succ]); try exact rfl
        case br10 =>
          refine step_appX _ (by rfl) _ _ 23 (by rfl) Try.el_str oL23 (by rfl) (Hr2.out _ bw3) (by rfl) (SS_cells S.ds) (max_small (by omega)) (by omega) bw3.size ?_
          intro vr4 r4 ow4 hg4 _ hb4r
          rw [Nat.zero_add, List.nil_append] at ow4
          obtain ⟨D3, D3c, rfl, _, _, _⟩ := own_vals ow4
          have bw4 : Below w.heap.size w r4 := bw3.trans hb4r
          have kX4 : Blk r4 w.heap.size 31 #[.slice A1 n1 c1, .slice A2 n2 c2] := blk_grT kX3 oL23 hg4 (by decide)
          have kY4 : Blk r4 (w.heap.size + 1) 31 #[.slice none 0 0, .slice none 0 0] := blk_grT kY3 oL23 hg4 (by decide)
          have oD24 : r4.ownsRow w.heap.size 4 1 (.slice D2 n1 D2c) n1 (BS S.bs) := own_grT oD23 oL23 hg4 (by decide)
          have oD34 : r4.ownsRow w.heap.size 9 1 (.slice D3 n2 D3c) n2 (SS S.ds) := ow4
          try simp only [Act.put, List.setIfInBounds_toArray, List.set_cons_zero, List.set_cons_succ]
          refine hK.out _ _ (by exact ⟨(kX4).get 0 rfl, (kX4).get 1 rfl⟩) (fun _ => ?_)
          clear hK K
          try simp only [Act.put, List.setIfInBounds_toArray, List.set_cons_zero, List.set_cons_succ]
          refine wpAnyH_take (i := 8) (oi := ?oi11) (v := ?v11) ?hi11 ?hs11 ?hf11 ?hr11 ?hQ11 ?hy11 ?hS11 ?hrest11
          case hi11 => (conv => lhs; simp only [List.getElem?_toArray, List.getElem?_cons_zero, List.getElem?_cons_succ]); try exact rfl
          case hs11 => kernel_rfl
          case hf11 => kernel_rfl
          case hr11 => kernel_rfl
          case hQ11 => exact fun _ _ _ h => h
          case hS11 => exact ⟨(kX4).get 0 rfl, (kX4).get 1 rfl⟩
          case hy11 => refine Or.inl ⟨by rfl, ?_⟩; intro w hSw; (try dsimp only at hSw); go_simp; (try with_reducible rfl)
          simp only [Act.put, List.setIfInBounds_toArray, List.set_cons_zero, List.set_cons_succ]
          refine wpAnyH_ready (rs := [9]) (by kernel_rfl) (by simp) ?_
          refine AllReadyH.cons (o := ?oi12) ?hi12 (fun K hK => ?br12) AllReadyH.nil
          case hi12 => (conv => lhs; simp only [List.getElem?_toArray, List.getElem?_cons_zero, List.getElem?_cons_succ]); try exact rfl
          case br12 =>
            have x5_0 := kY4.get (x := .slice none 0 0) 0 rfl
            have f5_0 := kY4.frozen 0
            have x5_1 := kY4.get (x := .slice none 0 0) 1 rfl
            have f5_1 := kY4.frozen 1
            have lE5 := kY4.lt
            have neX5 : w.heap.size ≠ (w.heap.size + 1) := by have := kY4.lt; have := kX4.lt; first | exact Blk.ne_ kX4 kY4 (by decide) | omega
            go_simp
            refine hK.out _ _ (by exact ⟨(((kX4).far (p := ⟨(w.heap.size + 1), 0, none⟩) neX5 (.slice D2 n1 D2c)).far (p := ⟨(w.heap.size + 1), 1, none⟩) neX5 (.slice D3 n2 D3c)).get 0 rfl, (((kX4).far (p := ⟨(w.heap.size + 1), 0, none⟩) neX5 (.slice D2 n1 D2c)).far (p := ⟨(w.heap.size + 1), 1, none⟩) neX5 (.slice D3 n2 D3c)).get 1 rfl⟩) (fun _ => ?_)
            clear hK K x5_0 f5_0 x5_1 f5_1 lE5
            refine foldH ?_
            intro r5 hr5
            have bw5 : Below w.heap.size w r5 := by rw [hr5]; exact belC (belC (bw4) _ 0 (Nat.le_succ _) (.slice D2 n1 D2c)) _ 1 (Nat.le_succ _) (.slice D3 n2 D3c)
            have kX5 : Blk r5 w.heap.size 31 #[.slice A1 n1 c1, .slice A2 n2 c2] := by rw [hr5]; exact ((kX4).far (p := ⟨(w.heap.size + 1), 0, none⟩) neX5 (.slice D2 n1 D2c)).far (p := ⟨(w.heap.size + 1), 1, none⟩) neX5 (.slice D3 n2 D3c)
            have kY5 : Blk r5 (w.heap.size + 1) 31 #[.slice D2 n1 D2c, .slice D3 n2 D3c] := by rw [hr5]; exact ((kY4.put 0 (.slice D2 n1 D2c) #[.slice D2 n1 D2c, .slice none 0 0] rfl).put 1 (.slice D3 n2 D3c) #[.slice D2 n1 D2c, .slice D3 n2 D3c] rfl)
            have oD25 : r5.ownsRow w.heap.size 4 1 (.slice D2 n1 D2c) n1 (BS S.bs) := by rw [hr5]; exact own_farT (own_farT (oD24) kY4 (by decide) 0 (.slice D2 n1 D2c)) (kY4.put 0 (.slice D2 n1 D2c) #[.slice D2 n1 D2c, .slice none 0 0] rfl) (by decide) 1 (.slice D3 n2 D3c)
            have oD35 : r5.ownsRow w.heap.size 9 1 (.slice D3 n2 D3c) n2 (SS S.ds) := by rw [hr5]; exact own_farT (own_farT (oD34) kY4 (by decide) 0 (.slice D2 n1 D2c)) (kY4.put 0 (.slice D2 n1 D2c) #[.slice D2 n1 D2c, .slice none 0 0] rfl) (by decide) 1 (.slice D3 n2 D3c)
            clear hr5
            refine wpAnyH_done (by kernel_rfl) ?_ _
            have r0f := kY5.get (x := .slice D2 n1 D2c) 0 rfl
            have r1f := kY5.get (x := .slice D3 n2 D3c) 1 rfl
            have OO2 := Lib.hid oD25
            have OO3 := Lib.hid oD35
            have lF := kY5.lt
            go_wp2
            refine bodyPost_ret (v := .agg #[.slice D2 n1 D2c, .slice D3 n2 D3c]) (by simp [results, Try.results20, go_sem, r0f, r1f]) rfl ⟨_, rfl, ⟨_, _, rfl, by rw [Hl1.out]; exact OO2.out, by rw [Hl2.out]; exact OO3.out⟩, bw5⟩
    case br8 =>
      go_simp
      refine hK.out _ _ (by exact ⟨(kX1.alloc (.cells #[] 9)).get 0 rfl, (kX1.alloc (.cells #[] 9)).get 1 rfl⟩) (fun _ => ?_)
      clear hK K
      refine foldH ?_
      intro r2 hr2
      have bw2 : Below w.heap.size w r2 := by rw [hr2]; exact belA bw1 _
      have kX2 : Blk r2 w.heap.size 31 #[.slice A1 n1 c1, .slice A2 n2 c2] := by rw [hr2]; exact kX1.alloc _
      have kY2 : Blk r2 (w.heap.size + 1) 31 #[.slice none 0 0, .slice none 0 0] := by rw [hr2]; exact kY1.alloc _
      have oL12 : r2.ownsRow w.heap.size 4 1 (.slice (some ⟨r0.heap.size, 0, none⟩) 0 0) 0 [] := by rw [hr2]; exact oL11.alloc _
      have oL22 : r2.ownsRow w.heap.size 9 1 (.slice (some ⟨r1.heap.size, 0, none⟩) 0 0) 0 [] := by rw [hr2]; exact own_lit0 _ _ _ _ bw1.size
      clear hr2
      refine wpAnyH_ready (rs := [3]) (by kernel_rfl) (by simp) ?_
      refine AllReadyH.cons (o := ?oi13) ?hi13 (fun K hK => ?br13) AllReadyH.nil
      case hi13 => (conv => lhs; simp only [List.getElem?_toArray, List.getElem?_cons_zero, List.getElem?_cons_succ]); try exact rfl
      case br13 =>
        refine step_appX _ (by rfl) _ _ 22 (by rfl) Try.el_bool oL12 (by rfl) (Hr1.out _ bw2) (by rfl) (BS_cells S.bs) (max_small (by omega)) (by omega) bw2.size ?_
        intro vr3 r3 ow3 hg3 _ hb3r
        rw [Nat.zero_add, List.nil_append] at ow3
        obtain ⟨D2, D2c, rfl, _, _, _⟩ := own_vals ow3
        have bw3 : Below w.heap.size w r3 := bw2.trans hb3r
        have kX3 : Blk r3 w.heap.size 31 #[.slice A1 n1 c1, .slice A2 n2 c2] := blk_grT kX2 oL12 hg3 (by decide)
        have kY3 : Blk r3 (w.heap.size + 1) 31 #[.slice none 0 0, .slice none 0 0] := blk_grT kY2 oL12 hg3 (by decide)
        have oL23 : r3.ownsRow w.heap.size 9 1 (.slice (some ⟨r1.heap.size, 0, none⟩) 0 0) 0 [] := own_grT oL22 oL12 hg3 (by decide)
        have oD23 : r3.ownsRow w.heap.size 4 1 (.slice D2 n1 D2c) n1 (BS S.bs) := ow3
        try simp only [Act.put, List.setIfInBounds_toArray, List.set_cons_zero, List.set_cons_succ]
        refine hK.out _ _ (by exact ⟨(kX3).get 0 rfl, (kX3).get 1 rfl⟩) (fun _ => ?_)
        clear hK K
        try simp only [Act.put, List.setIfInBounds_toArray, List.set_cons_zero, List.set_cons_succ]
        refine wpAnyH_ready (rs := [7]) (by kernel_rfl) (by simp) ?_
        refine AllReadyH.cons (o := ?oi14) ?hi14 (fun K hK => ?br14) AllReadyH.nil
        case hi14 => (conv => lhs; simp only [List.getElem?_toArray, List.getElem?_cons_zero, List.getElem?_cons_succ]); try exact rfl
        case br14 =>
          refine step_appX _ (by rfl) _ _ 23 (by rfl) Try.el_str oL23 (by rfl) (Hr2.out _ bw3) (by rfl) (SS_cells S.ds) (max_small (by omega)) (by omega) bw3.size ?_
          intro vr4 r4 ow4 hg4 _ hb4r
          rw [Nat.zero_add, List.nil_append] at ow4
          obtain ⟨D3, D3c, rfl, _, _, _⟩ := own_vals ow4
          have bw4 : Below w.heap.size w r4 := bw3.trans hb4r
          have kX4 : Blk r4 w.heap.size 31 #[.slice A1 n1 c1, .slice A2 n2 c2] := blk_grT kX3 oL23 hg4 (by decide)
          have kY4 : Blk r4 (w.heap.size + 1) 31 #[.slice none 0 0, .slice none 0 0] := blk_grT kY3 oL23 hg4 (by decide)
          have oD24 : r4.ownsRow w.heap.size 4 1 (.slice D2 n1 D2c) n1 (BS S.bs) := own_grT oD23 oL23 hg4 (by decide)
          have oD34 : r4.ownsRow w.heap.size 9 1 (.slice D3 n2 D3c) n2 (SS S.ds) := ow4
          try simp only [Act.put, List.setIfInBounds_toArray, List.set_cons_zero, List.set_cons_succ]
          refine hK.out _ _ (by exact ⟨(kX4).get 0 rfl, (kX4).get 1 rfl⟩) (fun _ => ?_)
          clear hK K
          try simp only [Act.put, List.setIfInBounds_toArray, List.set_cons_zero, List.set_cons_succ]
          refine wpAnyH_take (i := 8) (oi := ?oi15) (v := ?v15) ?hi15 ?hs15 ?hf15 ?hr15 ?hQ15 ?hy15 ?hS15 ?hrest15
          case hi15 => (conv => lhs; simp only [List.getElem?_toArray, List.getElem?_cons_zero, List.getElem?_cons_succ]); try exact rfl
          case hs15 => kernel_rfl
          case hf15 => kernel_rfl
          case hr15 => kernel_rfl
          case hQ15 => exact fun _ _ _ h => h
          case hS15 => exact ⟨(kX4).get 0 rfl, (kX4).get 1 rfl⟩
          case hy15 => refine Or.inl ⟨by rfl, ?_⟩; intro w hSw; (try dsimp only at hSw); go_simp; (try with_reducible rfl)
          simp only [Act.put, List.setIfInBounds_toArray, List.set_cons_zero, List.set_cons_succ]
          refine wpAnyH_ready (rs := [9]) (by kernel_rfl) (by simp) ?_
          refine AllReadyH.cons (o := ?oi16) ?hi16 (fun K hK => ?br16) AllReadyH.nil
          case hi16 => (conv => lhs; simp only [List.getElem?_toArray, List.getElem?_cons_zero, List.getElem?_cons_succ]); try exact rfl
          case br16 =>
            have x5_0 := kY4.get (x := .slice none 0 0) 0 rfl
            have f5_0 := kY4.frozen 0
            have x5_1 := kY4.get (x := .slice none 0 0) 1 rfl
            have f5_1 := kY4.frozen 1
            have lE5 := kY4.lt
            have neX5 : w.heap.size ≠ (w.heap.size + 1) := by have := kY4.lt; have := kX4.lt; first | exact Blk.ne_ kX4 kY4 (by decide) | omega
            go_simp
            refine hK.out _ _ (by exact ⟨(((kX4).far (p := ⟨(w.heap.size + 1), 0, none⟩) neX5 (.slice D2 n1 D2c)).far (p := ⟨(w.heap.size + 1), 1, none⟩) neX5 (.slice D3 n2 D3c)).get 0 rfl, (((kX4).far (p := ⟨(w.heap.size + 1), 0, none⟩) neX5 (.slice D2 n1 D2c)).far (p := ⟨(w.heap.size + 1), 1, none⟩) neX5 (.slice D3 n2 D3c)).get 1 rfl⟩) (fun _ => ?_)
            clear hK K x5_0 f5_0 x5_1 f5_1 lE5
            refine foldH ?_
            intro r5 hr5
            have bw5 : Below w.heap.size w r5 := by rw [hr5]; exact belC (belC (bw4) _ 0 (Nat.le_succ _) (.slice D2 n1 D2c)) _ 1 (Nat.le_succ _) (.slice D3 n2 D3c)
            have kX5 : Blk r5 w.heap.size 31 #[.slice A1 n1 c1, .slice A2 n2 c2] := by rw [hr5]; exact ((kX4).far (p := ⟨(w.heap.size + 1), 0, none⟩) neX5 (.slice D2 n1 D2c)).far (p := ⟨(w.heap.size + 1), 1, none⟩) neX5 (.slice D3 n2 D3c)
            have kY5 : Blk r5 (w.heap.size + 1) 31 #[.slice D2 n1 D2c, .slice D3 n2 D3c] := by rw [hr5]; exact ((kY4.put 0 (.slice D2 n1 D2c) #[.slice D2 n1 D2c, .slice none 0 0] rfl).put 1 (.slice D3 n2 D3c) #[.slice D2 n1 D2c, .slice D3 n2 D3c] rfl)
            have oD25 : r5.ownsRow w.heap.size 4 1 (.slice D2 n1 D2c) n1 (BS S.bs) := by rw [hr5]; exact own_farT (own_farT (oD24) kY4 (by decide) 0 (.slice D2 n1 D2c)) (kY4.put 0 (.slice D2 n1 D2c) #[.slice D2 n1 D2c, .slice none 0 0] rfl) (by decide) 1 (.slice D3 n2 D3c)
            have oD35 : r5.ownsRow w.heap.size 9 1 (.slice D3 n2 D3c) n2 (SS S.ds) := by rw [hr5]; exact own_farT (own_farT (oD34) kY4 (by decide) 0 (.slice D2 n1 D2c)) (kY4.put 0 (.slice D2 n1 D2c) #[.slice D2 n1 D2c, .slice none 0 0] rfl) (by decide) 1 (.slice D3 n2 D3c)
            clear hr5
            refine wpAnyH_done (by kernel_rfl) ?_ _
            have r0f := kY5.get (x := .slice D2 n1 D2c) 0 rfl
            have r1f := kY5.get (x := .slice D3 n2 D3c) 1 rfl
            have OO2 := Lib.hid oD25
            have OO3 := Lib.hid oD35
            have lF := kY5.lt
            go_wp2
            refine bodyPost_ret (v := .agg #[.slice D2 n1 D2c, .slice D3 n2 D3c]) (by simp [results, Try.results20, go_sem, r0f, r1f]) rfl ⟨_, rfl, ⟨_, _, rfl, by rw [Hl1.out]; exact OO2.out, by rw [Hl2.out]; exact OO3.out⟩, bw5⟩
  case br6 =>
    go_simp
    refine hK.out _ _ (by exact ⟨(kX0.alloc (.cells #[] 9)).get 0 rfl, (kX0.alloc (.cells #[] 9)).get 1 rfl⟩) (fun _ => ?_)
    clear hK K
    refine foldH ?_
    intro r1 hr1
    have bw1 : Below w.heap.size w r1 := by rw [hr1]; exact belA bw0 _
    have kX1 : Blk r1 w.heap.size 31 #[.slice A1 n1 c1, .slice A2 n2 c2] := by rw [hr1]; exact kX0.alloc _
    have kY1 : Blk r1 (w.heap.size + 1) 31 #[.slice none 0 0, .slice none 0 0] := by rw [hr1]; exact kY0.alloc _
    have oL21 : r1.ownsRow w.heap.size 9 1 (.slice (some ⟨r0.heap.size, 0, none⟩) 0 0) 0 [] := by rw [hr1]; exact own_lit0 _ _ _ _ bw0.size
    clear hr1
    refine wpAnyH_ready (rs := [0]) (by kernel_rfl) (by simp) ?_
    refine AllReadyH.cons (o := ?oi17) ?hi17 (fun K hK => ?br17) AllReadyH.nil
    case hi17 => (conv => lhs; simp only [List.getElem?_toArray, List.getElem?_cons_zero]); try exact rfl
    case br17 =>
      go_simp
      refine hK.out _ _ (by exact ⟨(kX1.alloc (.cells #[] 4)).get 0 rfl, (kX1.alloc (.cells #[] 4)).get 1 rfl⟩) (fun _ => ?_)
      clear hK K
      refine foldH ?_
      intro r2 hr2
      have bw2 : Below w.heap.size w r2 := by rw [hr2]; exact belA bw1 _
      have kX2 : Blk r2 w.heap.size 31 #[.slice A1 n1 c1, .slice A2 n2 c2] := by rw [hr2]; exact kX1.alloc _
      have kY2 : Blk r2 (w.heap.size + 1) 31 #[.slice none 0 0, .slice none 0 0] := by rw [hr2]; exact kY1.alloc _
      have oL22 : r2.ownsRow w.heap.size 9 1 (.slice (some ⟨r0.heap.size, 0, none⟩) 0 0) 0 [] := by rw [hr2]; exact oL21.alloc _
      have oL12 : r2.ownsRow w.heap.size 4 1 (.slice (some ⟨r1.heap.size, 0, none⟩) 0 0) 0 [] := by rw [hr2]; exact own_lit0 _ _ _ _ bw1.size
      clear hr2
      refine wpAnyH_ready (rs := [3]) (by kernel_rfl) (by simp) ?_
      refine AllReadyH.cons (o := ?oi18) ?hi18 (fun K hK => ?br18) AllReadyH.nil
      case hi18 => (conv => lhs; simp only [List.getElem?_toArray, List.getElem?_cons_zero, List.getElem?_cons_succ]); try exact rfl
      case br18 =>
        refine step_appX _ (by rfl) _ _ 22 (by rfl) Try.el_bool oL12 (by rfl) (Hr1.out _ bw2) (by rfl) (BS_cells S.bs) (max_small (by omega)) (by omega) bw2.size ?_
        intro vr3 r3 ow3 hg3 _ hb3r
        rw [Nat.zero_add, List.nil_append] at ow3
        obtain ⟨D2, D2c, rfl, _, _, _⟩ := own_vals ow3
        have bw3 : Below w.heap.size w r3 := bw2.trans hb3r
        have kX3 : Blk r3 w.heap.size 31 #[.slice A1 n1 c1, .slice A2 n2 c2] := blk_grT kX2 oL12 hg3 (by decide)
        have kY3 : Blk r3 (w.heap.size + 1) 31 #[.slice none 0 0, .slice none 0 0] := blk_grT kY2 oL12 hg3 (by decide)
        have oL23 : r3.ownsRow w.heap.size 9 1 (.slice (some ⟨r0.heap.size, 0, none⟩) 0 0) 0 [] := own_grT oL22 oL12 hg3 (by decide)
        have oD23 : r3.ownsRow w.heap.size 4 1 (.slice D2 n1 D2c) n1 (BS S.bs) := ow3
        try simp only [Act.put, List.setIfInBounds_toArray, List.set_cons_zero, List.set_cons_succ]
        refine hK.out _ _ (by exact ⟨(kX3).get 0 rfl, (kX3).get 1 rfl⟩) (fun _ => ?_)
        clear hK K
        try simp only [Act.put, List.setIfInBounds_toArray, List.set_cons_zero, List.set_cons_succ]
        refine wpAnyH_ready (rs := [7]) (by kernel_rfl) (by simp) ?_
        refine AllReadyH.cons (o := ?oi19) ?hi19 (fun K hK => ?br19) AllReadyH.nil
        case hi19 => (conv => lhs; simp only [List.getElem?_toArray, List.getElem?_cons_zero, List.getElem?_cons_succ]); try exact rfl
        case br19 =>
          refine step_appX _ (by rfl) _ _ 23 (by rfl) Try.el_str oL23 (by rfl) (Hr2.out _ bw3) (by rfl) (SS_cells S.ds) (max_small (by omega)) (by omega) bw3.size ?_
          intro vr4 r4 ow4 hg4 _ hb4r
          rw [Nat.zero_add, List.nil_append] at ow4
          obtain ⟨D3, D3c, rfl, _, _, _⟩ := own_vals ow4
          have bw4 : Below w.heap.size w r4 := bw3.trans hb4r
          have kX4 : Blk r4 w.heap.size 31 #[.slice A1 n1 c1, .slice A2 n2 c2] := blk_grT kX3 oL23 hg4 (by decide)
          have kY4 : Blk r4 (w.heap.size + 1) 31 #[.slice none 0 0, .slice none 0 0] := blk_grT kY3 oL23 hg4 (by decide)
          have oD24 : r4.ownsRow w.heap.size 4 1 (.slice D2 n1 D2c) n1 (BS S.bs) := own_grT oD23 oL23 hg4 (by decide)
          have oD34 : r4.ownsRow w.heap.size 9 1 (.slice D3 n2 D3c) n2 (SS S.ds) := ow4
          try simp only [Act.put, List.setIfInBounds_toArray, List.set_cons_zero, List.set_cons_succ]
          refine hK.out _ _ (by exact ⟨(kX4).get 0 rfl, (kX4).get 1 rfl⟩) (fun _ => ?_)
          clear hK K
          try simp only [Act.put, List.setIfInBounds_toArray, List.set_cons_zero, List.set_cons_succ]
          refine wpAnyH_take (i := 8) (oi := ?oi20) (v := ?v20) ?hi20 ?hs20 ?hf20 ?hr20 ?hQ20 ?hy20 ?hS20 ?hrest20
          case hi20 => (conv => lhs; simp only [List.getElem?_toArray, List.getElem?_cons_zero, List.getElem?_cons_succ]); try exact rfl
          case hs20 => kernel_rfl
          case hf20 => kernel_rfl
          case hr20 => kernel_rfl
          case hQ20 => exact fun _ _ _ h => h
          case hS20 => exact ⟨(kX4).get 0 rfl, (kX4).get 1 rfl⟩
          case hy20 => refine Or.inl ⟨by rfl, ?_⟩; intro w hSw; (try dsimp only at hSw); go_simp; (try with_reducible rfl)
          simp only [Act.put, List.setIfInBounds_toArray, List.set_cons_zero, List.set_cons_succ]
          refine wpAnyH_ready (rs := [9]) (by kernel_rfl) (by simp) ?_
          refine AllReadyH.cons (o := ?oi21) ?hi21 (fun K hK => ?br21) AllReadyH.nil
          case hi21 => (conv => lhs; simp only [List.getElem?_toArray, List.getElem?_cons_zero, List.getElem?_cons_succ]); try exact rfl
          case br21 =>
            have x5_0 := kY4.get (x := .slice none 0 0) 0 rfl
            have f5_0 := kY4.frozen 0
            have x5_1 := kY4.get (x := .slice none 0 0) 1 rfl
            have f5_1 := kY4.frozen 1
            have lE5 := kY4.lt
            have neX5 : w.heap.size ≠ (w.heap.size + 1) := by have := kY4.lt; have := kX4.lt; first | exact Blk.ne_ kX4 kY4 (by decide) | omega
            go_simp
            refine hK.out _ _ (by exact ⟨(((kX4).far (p := ⟨(w.heap.size + 1), 0, none⟩) neX5 (.slice D2 n1 D2c)).far (p := ⟨(w.heap.size + 1), 1, none⟩) neX5 (.slice D3 n2 D3c)).get 0 rfl, (((kX4).far (p := ⟨(w.heap.size + 1), 0, none⟩) neX5 (.slice D2 n1 D2c)).far (p := ⟨(w.heap.size + 1), 1, none⟩) neX5 (.slice D3 n2 D3c)).get 1 rfl⟩) (fun _ => ?_)
            clear hK K x5_0 f5_0 x5_1 f5_1 lE5
            refine foldH ?_
            intro r5 hr5
            have bw5 : Below w.heap.size w r5 := by rw [hr5]; exact belC (belC (bw4) _ 0 (Nat.le_succ _) (.slice D2 n1 D2c)) _ 1 (Nat.le_succ _) (.slice D3 n2 D3c)
            have kX5 : Blk r5 w.heap.size 31 #[.slice A1 n1 c1, .slice A2 n2 c2] := by rw [hr5]; exact ((kX4).far (p := ⟨(w.heap.size + 1), 0, none⟩) neX5 (.slice D2 n1 D2c)).far (p := ⟨(w.heap.size + 1), 1, none⟩) neX5 (.slice D3 n2 D3c)
            have kY5 : Blk r5 (w.heap.size + 1) 31 #[.slice D2 n1 D2c, .slice D3 n2 D3c] := by rw [hr5]; exact ((kY4.put 0 (.slice D2 n1 D2c) #[.slice D2 n1 D2c, .slice none 0 0] rfl).put 1 (.slice D3 n2 D3c) #[.slice D2 n1 D2c, .slice D3 n2 D3c] rfl)
            have oD25 : r5.ownsRow w.heap.size 4 1 (.slice D2 n1 D2c) n1 (BS S.bs) := by rw [hr5]; exact own_farT (own_farT (oD24) kY4 (by decide) 0 (.slice D2 n1 D2c)) (kY4.put 0 (.slice D2 n1 D2c) #[.slice D2 n1 D2c, .slice none 0 0] rfl) (by decide) 1 (.slice D3 n2 D3c)
            have oD35 : r5.ownsRow w.heap.size 9 1 (.slice D3 n2 D3c) n2 (SS S.ds) := by rw [hr5]; exact own_farT (own_farT (oD34) kY4 (by decide) 0 (.slice D2 n1 D2c)) (kY4.put 0 (.slice D2 n1 D2c) #[.slice D2 n1 D2c, .slice none 0 0] rfl) (by decide) 1 (.slice D3 n2 D3c)
            clear hr5
            refine wpAnyH_done (by kernel_rfl) ?_ _
            have r0f := kY5.get (x := .slice D2 n1 D2c) 0 rfl
            have r1f := kY5.get (x := .slice D3 n2 D3c) 1 rfl
            have OO2 := Lib.hid oD25
            have OO3 := Lib.hid oD35
            have lF := kY5.lt
            go_wp2
            refine bodyPost_ret (v := .agg #[.slice D2 n1 D2c, .slice D3 n2 D3c]) (by simp [results, Try.results20, go_sem, r0f, r1f]) rfl ⟨_, rfl, ⟨_, _, rfl, by rw [Hl1.out]; exact OO2.out, by rw [Hl2.out]; exact OO3.out⟩, bw5⟩

set_option maxRecDepth 100000 in
set_option maxHeartbeats 2000000 in
theorem copyFil_impl (v : Value) (F : FilD) (hF : F.xs.length ≤ 10000000) (w : World) (h : IsFil w v F) :
    Calls Try.prog 31 #[v] w fun e w' => ∃ v', e = .returned v' ∧ OwnFil w.heap.size v' F w' ∧ Below w.heap.size w w' := by
  obtain ⟨A1, c1, rfl, r1⟩ := h
  obtain ⟨n1, hl1⟩ : ∃ n, F.xs.length = n := ⟨_, rfl⟩
  obtain ⟨sz, hsz⟩ : ∃ n, F.sz = n := ⟨_, rfl⟩
  have Hr1 := Lib.hid (fun W (hb : Below w.heap.size w W) => r1.nxt hb)
  rw [hl1] at Hr1 hF
  rw [hl1, hsz]
  have Hl1 := Lib.hid hl1
  have Hsz := Lib.hid hsz
  clear r1 hl1 hsz
  obtain ⟨W1, hW1⟩ : ∃ W1, (w.alloc (.cells #[.int .i64 sz, .slice A1 n1 c1] 34)).alloc (.cells #[.int .i64 0, .slice none 0 0] 34) = W1 := ⟨_, rfl⟩
  have X : Blk W1 w.heap.size 34 #[.int .i64 sz, .slice A1 n1 c1] := by rw [← hW1]; exact (Blk.new' _ _ _ _ rfl).alloc _
  have Y : Blk W1 (w.heap.size + 1) 34 #[.int .i64 0, .slice none 0 0] := by rw [← hW1]; exact Blk.new' _ _ _ _ (by simp)
  have B1 : Below w.heap.size w W1 := by rw [← hW1]; exact belA (belA (bel0 w) _) _
  go_enter Try.func31, Try.ntmps31
  go_wp2_with fail
  try rw [hW1]
  clear hW1
  have HX := Lib.hid X
  have HY := Lib.hid Y
  clear X Y
  refine wp_region_held_drew (S := fun w' => w'.cell? ⟨w.heap.size, 0, none⟩ = some (.int .i64 sz) ∧ w'.cell? ⟨w.heap.size, 1, none⟩ = some (.slice A1 n1 c1)) (by kernel_rfl) (by exact ⟨(HX.out).get 0 rfl, (HX.out).get 1 rfl⟩) (fun hHeld => ?_)
  clear hHeld
  refine foldH ?_
  intro r0 hr0
  have bw0 : Below w.heap.size w r0 := by rw [hr0]; exact (B1).drew
  have kX0 : Blk r0 w.heap.size 34 #[.int .i64 sz, .slice A1 n1 c1] := by rw [hr0]; exact HX.out.drew
  have kY0 : Blk r0 (w.heap.size + 1) 34 #[.int .i64 0, .slice none 0 0] := by rw [hr0]; exact HY.out.drew
  clear hr0
  refine wpAnyH_take (i := 0) (oi := ?oi1) (v := ?v1) ?hi1 ?hs1 ?hf1 ?hr1 ?hQ1 ?hy1 ?hS1 ?hrest1
  case hi1 => (conv => lhs; simp only [List.getElem?_toArray, List.getElem?_cons_zero]); try exact rfl
  case hs1 => kernel_rfl
  case hf1 => kernel_rfl
  case hr1 => kernel_rfl
  case hQ1 => exact fun _ _ _ h => h
  case hS1 => exact ⟨(kX0).get 0 rfl, (kX0).get 1 rfl⟩
  case hy1 => refine Or.inl ⟨by rfl, ?_⟩; intro w hSw; (try dsimp only at hSw); go_simp; (try with_reducible rfl)
  simp only [Act.put, List.setIfInBounds_toArray, List.set_cons_zero, List.set_cons_succ]
  refine wpAnyH_take (i := 1) (oi := ?oi2) (v := ?v2) ?hi2 ?hs2 ?hf2 ?hr2 ?hQ2 ?hy2 ?hS2 ?hrest2
  case hi2 => (conv => lhs; simp only [List.getElem?_toArray, List.getElem?_cons_zero, List.getElem?_cons_succ]); try exact rfl
  case hs2 => kernel_rfl
  case hf2 => kernel_rfl
  case hr2 => kernel_rfl
  case hQ2 => exact fun _ _ _ h => h
  case hS2 => exact ⟨(kX0).get 0 rfl, (kX0).get 1 rfl⟩
  case hy2 => refine Or.inl ⟨by rfl, ?_⟩; intro w hSw; (try dsimp only at hSw); go_simp; (try with_reducible rfl)
  simp only [Act.put, List.setIfInBounds_toArray, List.set_cons_zero, List.set_cons_succ]
  refine wpAnyH_take (i := 2) (oi := ?oi3) (v := ?v3) ?hi3 ?hs3 ?hf3 ?hr3 ?hQ3 ?hy3 ?hS3 ?hrest3
  case hi3 => (conv => lhs; simp only [List.getElem?_toArray, List.getElem?_cons_zero, List.getElem?_cons_succ]); try exact rfl
  case hs3 => kernel_rfl
  case hf3 => kernel_rfl
  case hr3 => kernel_rfl
  case hQ3 => exact fun _ _ _ h => h
  case hS3 => exact ⟨(kX0).get 0 rfl, (kX0).get 1 rfl⟩
  case hy3 => refine Or.inl ⟨by rfl, ?_⟩; intro w hSw; (try dsimp only at hSw); go_simp; (try with_reducible rfl)
  simp only [Act.put, List.setIfInBounds_toArray, List.set_cons_zero, List.set_cons_succ]
  refine wpAnyH_take (i := 3) (oi := ?oi4) (v := ?v4) ?hi4 ?hs4 ?hf4 ?hr4 ?hQ4 ?hy4 ?hS4 ?hrest4
  case hi4 => (conv => lhs; simp only [List.getElem?_toArray, List.getElem?_cons_zero, List.getElem?_cons_succ]); try exact rfl
  case hs4 => kernel_rfl
  case hf4 => kernel_rfl
  case hr4 => kernel_rfl
  case hQ4 => exact fun _ _ _ h => h
  case hS4 => exact ⟨(kX0).get 0 rfl, (kX0).get 1 rfl⟩
  case hy4 => refine Or.inl ⟨by rfl, ?_⟩; intro w hSw; (try dsimp only at hSw); go_simp; (try with_reducible rfl)
  simp only [Act.put, List.setIfInBounds_toArray, List.set_cons_zero, List.set_cons_succ]
  refine wpAnyH_ready (rs := [4]) (by kernel_rfl) (by simp) ?_
  refine AllReadyH.cons (o := ?oi5) ?hi5 (fun K hK => ?br5) AllReadyH.nil
  case hi5 => (conv => lhs; simp only [List.getElem?_toArray, List.getElem?_cons_zero, List.getElem?_cons_succ]); try exact rfl
  case br5 =>
    refine step_appX _ (by rfl) _ _ 32 (by rfl) Try.el_ext (World.ownsRow_nil _ w.heap.size _ _) (by rfl) (Hr1.out _ bw0) (by rfl) (XS_cells F.xs) (max_small (by omega)) (by omega) bw0.size ?_
    intro vr1 r1 ow1 hg1 _ hb1r
    rw [Nat.zero_add, List.nil_append] at ow1
    obtain ⟨D2, D2c, rfl, _, _, _⟩ := own_vals ow1
    have bw1 : Below w.heap.size w r1 := bw0.trans hb1r
    have hz1 : Below r0.heap.size r0 r1 := below_none hg1
    have kX1 : Blk r1 w.heap.size 34 #[.int .i64 sz, .slice A1 n1 c1] := kX0.below hz1 kX0.lt
    have kY1 : Blk r1 (w.heap.size + 1) 34 #[.int .i64 0, .slice none 0 0] := kY0.below hz1 kY0.lt
    have oD21 : r1.ownsRow w.heap.size 76 3 (.slice D2 n1 D2c) n1 (XS F.xs) := ow1
    try simp only [Act.put, List.setIfInBounds_toArray, List.set_cons_zero, List.set_cons_succ]
    refine hK.out _ _ (by exact ⟨(kX1).get 0 rfl, (kX1).get 1 rfl⟩) (fun _ => ?_)
    clear hK K
    try simp only [Act.put, List.setIfInBounds_toArray, List.set_cons_zero, List.set_cons_succ]
    refine wpAnyH_take (i := 5) (oi := ?oi6) (v := ?v6) ?hi6 ?hs6 ?hf6 ?hr6 ?hQ6 ?hy6 ?hS6 ?hrest6
    case hi6 => (conv => lhs; simp only [List.getElem?_toArray, List.getElem?_cons_zero, List.getElem?_cons_succ]); try exact rfl
    case hs6 => kernel_rfl
    case hf6 => kernel_rfl
    case hr6 => kernel_rfl
    case hQ6 => exact fun _ _ _ h => h
    case hS6 => exact ⟨(kX1).get 0 rfl, (kX1).get 1 rfl⟩
    case hy6 => refine Or.inl ⟨by rfl, ?_⟩; intro w hSw; (try dsimp only at hSw); go_simp; (try with_reducible rfl)
    simp only [Act.put, List.setIfInBounds_toArray, List.set_cons_zero, List.set_cons_succ]
    refine wpAnyH_ready (rs := [6]) (by kernel_rfl) (by simp) ?_
    refine AllReadyH.cons (o := ?oi7) ?hi7 (fun K hK => ?br7) AllReadyH.nil
    case hi7 => (conv => lhs; simp only [List.getElem?_toArray, List.getElem?_cons_zero, List.getElem?_cons_succ]); try exact rfl
    case br7 =>
      have x2_0 := kY1.get (x := .int .i64 0) 0 rfl
      have f2_0 := kY1.frozen 0
      have x2_1 := kY1.get (x := .slice none 0 0) 1 rfl
      have f2_1 := kY1.frozen 1
      have lE2 := kY1.lt
      have neX2 : w.heap.size ≠ (w.heap.size + 1) := by have := kY1.lt; have := kX1.lt; first | exact Blk.ne_ kX1 kY1 (by decide) | omega
      go_simp
      refine hK.out _ _ (by exact ⟨(((kX1).far (p := ⟨(w.heap.size + 1), 0, none⟩) neX2 (.int .i64 sz)).far (p := ⟨(w.heap.size + 1), 1, none⟩) neX2 (.slice D2 n1 D2c)).get 0 rfl, (((kX1).far (p := ⟨(w.heap.size + 1), 0, none⟩) neX2 (.int .i64 sz)).far (p := ⟨(w.heap.size + 1), 1, none⟩) neX2 (.slice D2 n1 D2c)).get 1 rfl⟩) (fun _ => ?_)
      clear hK K x2_0 f2_0 x2_1 f2_1 lE2
      refine foldH ?_
      intro r2 hr2
      have bw2 : Below w.heap.size w r2 := by rw [hr2]; exact belC (belC (bw1) _ 0 (Nat.le_succ _) (.int .i64 sz)) _ 1 (Nat.le_succ _) (.slice D2 n1 D2c)
      have kX2 : Blk r2 w.heap.size 34 #[.int .i64 sz, .slice A1 n1 c1] := by rw [hr2]; exact ((kX1).far (p := ⟨(w.heap.size + 1), 0, none⟩) neX2 (.int .i64 sz)).far (p := ⟨(w.heap.size + 1), 1, none⟩) neX2 (.slice D2 n1 D2c)
      have kY2 : Blk r2 (w.heap.size + 1) 34 #[.int .i64 sz, .slice D2 n1 D2c] := by rw [hr2]; exact ((kY1.put 0 (.int .i64 sz) #[.int .i64 sz, .slice none 0 0] rfl).put 1 (.slice D2 n1 D2c) #[.int .i64 sz, .slice D2 n1 D2c] rfl)
      have oD22 : r2.ownsRow w.heap.size 76 3 (.slice D2 n1 D2c) n1 (XS F.xs) := by rw [hr2]; exact own_farT (own_farT (oD21) kY1 (by decide) 0 (.int .i64 sz)) (kY1.put 0 (.int .i64 sz) #[.int .i64 sz, .slice none 0 0] rfl) (by decide) 1 (.slice D2 n1 D2c)
      clear hr2
      refine wpAnyH_done (by kernel_rfl) ?_ _
      have r0f := kY2.get (x := .int .i64 sz) 0 rfl
      have r1f := kY2.get (x := .slice D2 n1 D2c) 1 rfl
      have OO2 := Lib.hid oD22
      have lF := kY2.lt
      go_wp2
      refine bodyPost_ret (v := .agg #[.int .i64 sz, .slice D2 n1 D2c]) (by simp [results, Try.results31, go_sem, r0f, r1f]) rfl ⟨_, rfl, ⟨_, by rw [Hsz.out], by rw [Hl1.out]; exact OO2.out⟩, bw2⟩

set_option maxRecDepth 100000 in
set_option maxHeartbeats 2000000 in
theorem copyFil_spec (v : Value) (F : FilD) (hF : F.xs.length ≤ 10000000) (w : World) (h : IsFil w v F) :
    Calls Try.prog 21 #[v] w fun e w' => ∃ v', e = .returned v' ∧ OwnFil w.heap.size v' F w' ∧ Below w.heap.size w w' := by
  obtain ⟨A1, c1, rfl, r1⟩ := h
  obtain ⟨n1, hl1⟩ : ∃ n, F.xs.length = n := ⟨_, rfl⟩
  obtain ⟨sz, hsz⟩ : ∃ n, F.sz = n := ⟨_, rfl⟩
  have Hr1 := Lib.hid (fun W (hb : Below w.heap.size w W) => r1.nxt hb)
  rw [hl1] at Hr1 hF
  rw [hl1, hsz]
  have Hl1 := Lib.hid hl1
  have Hsz := Lib.hid hsz
  clear r1 hl1 hsz
  obtain ⟨W1, hW1⟩ : ∃ W1, (w.alloc (.cells #[.int .i64 sz, .slice A1 n1 c1] 34)).alloc (.cells #[.int .i64 0, .slice none 0 0] 34) = W1 := ⟨_, rfl⟩
  have X : Blk W1 w.heap.size 34 #[.int .i64 sz, .slice A1 n1 c1] := by rw [← hW1]; exact (Blk.new' _ _ _ _ rfl).alloc _
  have Y : Blk W1 (w.heap.size + 1) 34 #[.int .i64 0, .slice none 0 0] := by rw [← hW1]; exact Blk.new' _ _ _ _ (by simp)
  have B1 : Below w.heap.size w W1 := by rw [← hW1]; exact belA (belA (bel0 w) _) _
  go_enter Try.func21, Try.ntmps21
  go_wp2_with fail
  try rw [hW1]
  clear hW1
  have HX := Lib.hid X
  have HY := Lib.hid Y
  clear X Y
  refine wp_region_held_drew (S := fun w' => w'.cell? ⟨w.heap.size, 0, none⟩ = some (.int .i64 sz) ∧ w'.cell? ⟨w.heap.size, 1, none⟩ = some (.slice A1 n1 c1)) (by kernel_rfl) (by exact ⟨(HX.out).get 0 rfl, (HX.out).get 1 rfl⟩) (fun hHeld => ?_)
  clear hHeld
  refine foldH ?_
  intro r0 hr0
  have bw0 : Below w.heap.size w r0 := by rw [hr0]; exact (B1).drew
  have kX0 : Blk r0 w.heap.size 34 #[.int .i64 sz, .slice A1 n1 c1] := by rw [hr0]; exact HX.out.drew
  have kY0 : Blk r0 (w.heap.size + 1) 34 #[.int .i64 0, .slice none 0 0] := by rw [hr0]; exact HY.out.drew
  clear hr0
  refine wpAnyH_take (i := 0) (oi := ?oi1) (v := ?v1) ?hi1 ?hs1 ?hf1 ?hr1 ?hQ1 ?hy1 ?hS1 ?hrest1
  case hi1 => (conv => lhs; simp only [List.getElem?_toArray, List.getElem?_cons_zero]); try exact rfl
  case hs1 => kernel_rfl
  case hf1 => kernel_rfl
  case hr1 => kernel_rfl
  case hQ1 => exact fun _ _ _ h => h
  case hS1 => exact ⟨(kX0).get 0 rfl, (kX0).get 1 rfl⟩
  case hy1 => refine Or.inl ⟨by rfl, ?_⟩; intro w hSw; (try dsimp only at hSw); go_simp; (try with_reducible rfl)
  simp only [Act.put, List.setIfInBounds_toArray, List.set_cons_zero, List.set_cons_succ]
  refine wpAnyH_take (i := 1) (oi := ?oi2) (v := ?v2) ?hi2 ?hs2 ?hf2 ?hr2 ?hQ2 ?hy2 ?hS2 ?hrest2
  case hi2 => (conv => lhs; simp only [List.getElem?_toArray, List.getElem?_cons_zero, List.getElem?_cons_succ]); try exact rfl
  case hs2 => kernel_rfl
  case hf2 => kernel_rfl
  case hr2 => kernel_rfl
  case hQ2 => exact fun _ _ _ h => h
  case hS2 => exact ⟨(kX0).get 0 rfl, (kX0).get 1 rfl⟩
  case hy2 => refine Or.inl ⟨by rfl, ?_⟩; intro w hSw; (try dsimp only at hSw); go_simp; (try with_reducible rfl)
  simp only [Act.put, List.setIfInBounds_toArray, List.set_cons_zero, List.set_cons_succ]
  refine wpAnyH_take (i := 3) (oi := ?oi3) (v := ?v3) ?hi3 ?hs3 ?hf3 ?hr3 ?hQ3 ?hy3 ?hS3 ?hrest3
  case hi3 => (conv => lhs; simp only [List.getElem?_toArray, List.getElem?_cons_zero, List.getElem?_cons_succ]); try exact rfl
  case hs3 => kernel_rfl
  case hf3 => kernel_rfl
  case hr3 => kernel_rfl
  case hQ3 => exact fun _ _ _ h => h
  case hS3 => exact ⟨(kX0).get 0 rfl, (kX0).get 1 rfl⟩
  case hy3 => refine Or.inl ⟨by rfl, ?_⟩; intro w hSw; (try dsimp only at hSw); go_simp; (try with_reducible rfl)
  simp only [Act.put, List.setIfInBounds_toArray, List.set_cons_zero, List.set_cons_succ]
  refine wpAnyH_take (i := 4) (oi := ?oi4) (v := ?v4) ?hi4 ?hs4 ?hf4 ?hr4 ?hQ4 ?hy4 ?hS4 ?hrest4
  case hi4 => (conv => lhs; simp only [List.getElem?_toArray, List.getElem?_cons_zero, List.getElem?_cons_succ]); try exact rfl
  case hs4 => kernel_rfl
  case hf4 => kernel_rfl
  case hr4 => kernel_rfl
  case hQ4 => exact fun _ _ _ h => h
  case hS4 => exact ⟨(kX0).get 0 rfl, (kX0).get 1 rfl⟩
  case hy4 => refine Or.inl ⟨by rfl, ?_⟩; intro w hSw; (try dsimp only at hSw); go_simp; (try with_reducible rfl)
  simp only [Act.put, List.setIfInBounds_toArray, List.set_cons_zero, List.set_cons_succ]
  refine wpAnyH_ready (rs := [2]) (by kernel_rfl) (by simp) ?_
  refine AllReadyH.cons (o := ?oi5) ?hi5 (fun K hK => ?br5) AllReadyH.nil
  case hi5 => (conv => lhs; simp only [List.getElem?_toArray, List.getElem?_cons_zero, List.getElem?_cons_succ]); try exact rfl
  case br5 =>
    go_simp
    refine hK.out _ _ (by exact ⟨(kX0.alloc (.cells #[] 76)).get 0 rfl, (kX0.alloc (.cells #[] 76)).get 1 rfl⟩) (fun _ => ?_)
    clear hK K
    refine foldH ?_
    intro r1 hr1
    have bw1 : Below w.heap.size w r1 := by rw [hr1]; exact belA bw0 _
    have kX1 : Blk r1 w.heap.size 34 #[.int .i64 sz, .slice A1 n1 c1] := by rw [hr1]; exact kX0.alloc _
    have kY1 : Blk r1 (w.heap.size + 1) 34 #[.int .i64 0, .slice none 0 0] := by rw [hr1]; exact kY0.alloc _
    have oL11 : r1.ownsRow w.heap.size 76 3 (.slice (some ⟨r0.heap.size, 0, none⟩) 0 0) 0 [] := by rw [hr1]; exact own_lit0 _ _ _ _ bw0.size
    clear hr1
    refine wpAnyH_ready (rs := [5]) (by kernel_rfl) (by simp) ?_
    refine AllReadyH.cons (o := ?oi6) ?hi6 (fun K hK => ?br6) AllReadyH.nil
    case hi6 => (conv => lhs; simp only [List.getElem?_toArray, List.getElem?_cons_zero, List.getElem?_cons_succ]); try exact rfl
    case br6 =>
      refine step_appX _ (by rfl) _ _ 32 (by rfl) Try.el_ext oL11 (by rfl) (Hr1.out _ bw1) (by rfl) (XS_cells F.xs) (max_small (by omega)) (by omega) bw1.size ?_
      intro vr2 r2 ow2 hg2 _ hb2r
      rw [Nat.zero_add, List.nil_append] at ow2
      obtain ⟨D2, D2c, rfl, _, _, _⟩ := own_vals ow2
      have bw2 : Below w.heap.size w r2 := bw1.trans hb2r
      have kX2 : Blk r2 w.heap.size 34 #[.int .i64 sz, .slice A1 n1 c1] := blk_grT kX1 oL11 hg2 (by decide)
      have kY2 : Blk r2 (w.heap.size + 1) 34 #[.int .i64 0, .slice none 0 0] := blk_grT kY1 oL11 hg2 (by decide)
      have oD22 : r2.ownsRow w.heap.size 76 3 (.slice D2 n1 D2c) n1 (XS F.xs) := ow2
      try simp only [Act.put, List.setIfInBounds_toArray, List.set_cons_zero, List.set_cons_succ]
      refine hK.out _ _ (by exact ⟨(kX2).get 0 rfl, (kX2).get 1 rfl⟩) (fun _ => ?_)
      clear hK K
      try simp only [Act.put, List.setIfInBounds_toArray, List.set_cons_zero, List.set_cons_succ]
      refine wpAnyH_take (i := 6) (oi := ?oi7) (v := ?v7) ?hi7 ?hs7 ?hf7 ?hr7 ?hQ7 ?hy7 ?hS7 ?hrest7
      case hi7 => (conv => lhs; simp only [List.getElem?_toArray, List.getElem?_cons_zero, List.getElem?_cons_succ]); try exact rfl
      case hs7 => kernel_rfl
      case hf7 => kernel_rfl
      case hr7 => kernel_rfl
      case hQ7 => exact fun _ _ _ h => h
      case hS7 => exact ⟨(kX2).get 0 rfl, (kX2).get 1 rfl⟩
      case hy7 => refine Or.inl ⟨by rfl, ?_⟩; intro w hSw; (try dsimp only at hSw); go_simp; (try with_reducible rfl)
      simp only [Act.put, List.setIfInBounds_toArray, List.set_cons_zero, List.set_cons_succ]
      refine wpAnyH_ready (rs := [7]) (by kernel_rfl) (by simp) ?_
      refine AllReadyH.cons (o := ?oi8) ?hi8 (fun K hK => ?br8) AllReadyH.nil
      case hi8 => (conv => lhs; simp only [List.getElem?_toArray, List.getElem?_cons_zero, List.getElem?_cons_succ]); try exact rfl
      case br8 =>
        have x3_0 := kY2.get (x := .int .i64 0) 0 rfl
        have f3_0 := kY2.frozen 0
        have x3_1 := kY2.get (x := .slice none 0 0) 1 rfl
        have f3_1 := kY2.frozen 1
        have lE3 := kY2.lt
        have neX3 : w.heap.size ≠ (w.heap.size + 1) := by have := kY2.lt; have := kX2.lt; first | exact Blk.ne_ kX2 kY2 (by decide) | omega
        go_simp
        refine hK.out _ _ (by exact ⟨(((kX2).far (p := ⟨(w.heap.size + 1), 0, none⟩) neX3 (.int .i64 sz)).far (p := ⟨(w.heap.size + 1), 1, none⟩) neX3 (.slice D2 n1 D2c)).get 0 rfl, (((kX2).far (p := ⟨(w.heap.size + 1), 0, none⟩) neX3 (.int .i64 sz)).far (p := ⟨(w.heap.size + 1), 1, none⟩) neX3 (.slice D2 n1 D2c)).get 1 rfl⟩) (fun _ => ?_)
        clear hK K x3_0 f3_0 x3_1 f3_1 lE3
        refine foldH ?_
        intro r3 hr3
        have bw3 : Below w.heap.size w r3 := by rw [hr3]; exact belC (belC (bw2) _ 0 (Nat.le_succ _) (.int .i64 sz)) _ 1 (Nat.le_succ _) (.slice D2 n1 D2c)
        have kX3 : Blk r3 w.heap.size 34 #[.int .i64 sz, .slice A1 n1 c1] := by rw [hr3]; exact ((kX2).far (p := ⟨(w.heap.size + 1), 0, none⟩) neX3 (.int .i64 sz)).far (p := ⟨(w.heap.size + 1), 1, none⟩) neX3 (.slice D2 n1 D2c)
        have kY3 : Blk r3 (w.heap.size + 1) 34 #[.int .i64 sz, .slice D2 n1 D2c] := by rw [hr3]; exact ((kY2.put 0 (.int .i64 sz) #[.int .i64 sz, .slice none 0 0] rfl).put 1 (.slice D2 n1 D2c) #[.int .i64 sz, .slice D2 n1 D2c] rfl)
        have oD23 : r3.ownsRow w.heap.size 76 3 (.slice D2 n1 D2c) n1 (XS F.xs) := by rw [hr3]; exact own_farT (own_farT (oD22) kY2 (by decide) 0 (.int .i64 sz)) (kY2.put 0 (.int .i64 sz) #[.int .i64 sz, .slice none 0 0] rfl) (by decide) 1 (.slice D2 n1 D2c)
        clear hr3
        refine wpAnyH_done (by kernel_rfl) ?_ _
        have r0f := kY3.get (x := .int .i64 sz) 0 rfl
        have r1f := kY3.get (x := .slice D2 n1 D2c) 1 rfl
        have OO2 := Lib.hid oD23
        have lF := kY3.lt
        go_wp2
        refine bodyPost_ret (v := .agg #[.int .i64 sz, .slice D2 n1 D2c]) (by simp [results, Try.results21, go_sem, r0f, r1f]) rfl ⟨_, rfl, ⟨_, by rw [Hsz.out], by rw [Hl1.out]; exact OO2.out⟩, bw3⟩

end Go.Proofs.Ytajgenjfhcapjaa
