/- A file or a directory is made in a volume that calls have made. -/
import Derived.Test.YtjjniapamdleoaaGreatDoorRCL6W
namespace Go.Proofs.YtjjniapamdleoaaGreatDoor
open Go Go.RowKit
set_option maxHeartbeats 4000000
set_option maxRecDepth 100000

theorem QV.names {K : Int} {V : VolD} (h : QV K V) {k : Nat} (hk : k < V.xs.length) : V.xs[k].es.length <= 12 /\ ∀ e ∈ V.xs[k].es, e.s.size <= 2000000 := by
 have h1 := h.sm.2 _ (List.getElem_mem hk)
 exact ⟨(dirOk_pw.1 (h.dir _ (List.getElem_mem hk))).1, fun e he => by have := h1.2.1 e he; omega⟩
theorem blk_gV {w w' : World} {b g : Nat} {t : TypeId} {cs : Array Value} (h : Blk w b t cs) (hg : w.grownBy w' (some g)) (hne : b ≠ g) : Blk w' b t cs := h.grown hg (fun e => hne (by injection e))
theorem YR.far4 {w : World} {lo g c b : Nat} {x0 x1 x2 x3 : Value} {xs : List InoD} {vs : List Value} (h : YR w lo g c xs vs) (hb : Blk w b 54 #[x0, x1, x2, x3]) (y0 y1 y2 y3 : Value) :
  YR ((((w.setCell ⟨b, 0, none⟩ y0).setCell ⟨b, 1, none⟩ y1).setCell ⟨b, 2, none⟩ y2).setCell ⟨b, 3, none⟩ y3) lo g c xs vs := by
 have one : ∀ {w : World} {cs : Array Value} (_ : YR w lo g c xs vs) (_ : Blk w b 54 cs) (j : Nat) (u : Value), YR (w.setCell ⟨b, j, none⟩ u) lo g c xs vs := fun {w} {cs} h hb j u =>
  ⟨h.1.kept (only_setCell (p := ⟨b, j, none⟩) (grown_refl w (some b)) (.inl rfl) u) (.inr (own_blk_ne h.1 hb (by decide))), h.2.1, fun i hi => by
   obtain ⟨v, h1, h2⟩ := h.2.2 i hi
   exact ⟨v, h1, h2.kept (only_setCell (p := ⟨b, j, none⟩) (grown_refl w (some b)) (.inl rfl) u) (.inr (own_blk_ne h2 hb (by decide)))⟩⟩
 exact one (one (one (one h hb 0 y0) (hb.put 0 y0 #[y0, x1, x2, x3] rfl) 1 y1) ((hb.put 0 y0 #[y0, x1, x2, x3] rfl).put 1 y1 #[y0, y1, x2, x3] rfl) 2 y2) (((hb.put 0 y0 #[y0, x1, x2, x3] rfl).put 1 y1 #[y0, y1, x2, x3] rfl).put 2 y2 #[y0, y1, y2, x3] rfl) 3 y3
theorem l6With_n {n : Nat} (lo g c : Nat) (nx : Int) (xs : List InoD) (vs : List Value) (hn : xs.length = n) (a : Int) (k : Nat) (hk : k < xs.length) (ve : Value) (es : List EntD) (w : World) (h : YR w lo g c xs vs) (hp : plc xs a = (k : Int)) (hz : xs.length <= 10000000) (hv : w.ownsRow lo 38 4 ve es.length (ES es)) :
  Calls Tryz.prog 221 #[.agg #[.int .i64 nx, .slice (some ⟨g, 0, none⟩) n c], .int .i64 a, ve] w fun e w' => e = .returned (.agg #[.int .i64 nx, .slice (some ⟨g, 0, none⟩) n c]) /\ YR w' lo g c (ptE xs k es) (vs.set k ve) /\ w.grownBy w' (some g) := by
 subst hn
 exact l6With_own lo g c nx xs vs a k hk ve es w (fun W hW => h.atK hz hp W hW) h.1 (h.2.x k) hv
theorem l6Less_n {n : Nat} (lo g c : Nat) (nx : Int) (xs : List InoD) (vs : List Value) (hn : xs.length = n) (hz : n <= 100000) (a : Int) (j : Nat) (hj : j < xs.length) (ln : Int) (hln : xs[j].ln = ln) (hp : plc xs a = (j : Int)) (hl : -1000000 <= ln /\ ln <= 1000000) (hroot : ∃ x ∈ xs, x.id ≠ a) (Z : List InoD) (hZ : lessV xs j a (ln - 1) = Z) (w : World) (h : YR w lo g c xs vs) :
  Calls Tryz.prog 222 #[.agg #[.int .i64 nx, .slice (some ⟨g, 0, none⟩) n c], .int .i64 a] w fun e w' => ∃ g' c', e = .returned (.agg #[.int .i64 nx, .slice (some ⟨g', 0, none⟩) Z.length c']) /\ (∃ us, YR w' lo g' c' Z us) /\ w.grownBy w' (some g) := by
 subst hn
 subst hln
 subst hZ
 refine (l6Less_own lo g c nx xs vs hz a j hj hp hl hroot w h).mono ?_
 rintro e w' ⟨g', c', us, rfl, h1, h2⟩
 exact ⟨g', c', rfl, ⟨us, h1⟩, h2⟩
theorem l6Ents_rd (v : Value) (V : VolD) (hn : V.xs.length <= 10000000) (a : Int) (k : Nat) (hk : k < V.xs.length) (hp : plc V.xs a = (k : Int)) (w : World) (hC : IsVolC w v V) :
  Calls Tryz.prog 220 #[v, .int .i64 a] w fun e w' => ∃ A' c', e = .returned (.slice A' V.xs[k].es.length c') /\ Reads w w.heap.size 4 A' V.xs[k].es.length (ES V.xs[k].es) /\ Below w.heap.size w w' := by
 have Hat := Lib.hid (fun W hW => l6At_any v V hn a W hW)
 simp only [hp] at Hat
 have hv := Lib.hid hC
 have h := hC.is
 obtain ⟨A, c, rfl, h⟩ := h
 obtain ⟨nx, xs⟩ := V
 simp only at Hat h hn hk ⊢
 have H := Lib.hid h
 clear h hC hp
 obtain ⟨n, hn'⟩ : ∃ n, xs.length = n := ⟨_, rfl⟩
 have hkn : k < n := by omega
 simp only [hn'] at Hat hv H hn ⊢
 clear hn'
 have q0 : (0 : Int) <= ↑k := by omega
 have q1 : (↑k : Int) < ↑n := by omega
 obtain ⟨W1, hW1⟩ : ∃ W1, w.alloc (.cells #[.int .i64 nx, .slice A n c] 26) = W1 := ⟨_, rfl⟩
 have B1 : Below w.heap.size w W1 := by rw [<- hW1]; exact belA (bel0 w) _
 have hV : Blk W1 w.heap.size 26 #[.int .i64 nx, .slice A n c] := by rw [<- hW1]; exact Blk.new' _ _ _ _ rfl
 have HW1 := Lib.hid hW1
 obtain ⟨v0, v1⟩ := hV.g2
 clear hW1 hV
 obtain ⟨_, b, o, A', c', hA, hadb, _, _, _, _, z4', hrow⟩ := H.out.at_ hkn
 subst hA
 have z4 := kp_ B1 z4'
 obtain ⟨m, hm⟩ : ∃ m, xs[k].es.length = m := ⟨_, rfl⟩
 rw [hm] at z4 hrow ⊢
 have Hrow := Lib.hid hrow
 clear z4' hm hrow
 go_enter Tryz.func220, Tryz.ntmps220
 go_wp2_with fail
 rw [HW1.out]
 go_region_held3 (fun w' => w'.cell? ⟨w.heap.size, 0, none⟩ = some (.int .i64 nx) /\ w'.cell? ⟨w.heap.size, 1, none⟩ = some (.slice (some ⟨b, o, none⟩) n c) /\ w'.cell? ⟨b, o + k * 5 + 4, none⟩ = some (.slice A' m c'))
  (first | go_keep | (refine ⟨keep1 hb5 ?_, keep1 hb5 ?_, keep1 hb5 ?_⟩ <;> go_keep))
  (first | (go_at_call 54; refine (Hat.out _ (hv.out.next B1.drew).is).mono ?_; rintro e w5 ⟨rfl, hb5⟩))
 go_wp2
 go_ret
 exact ⟨A', c', rfl, Hrow.out, belN B1.drew hb5⟩
theorem farCL {w : World} {b o b' o' : Nat} {u x : Value} (hne : b ≠ b') (h : w.cell? ⟨b', o', none⟩ = some x) : (w.setCell ⟨b, o, none⟩ u).cell? ⟨b', o', none⟩ = some x := (World.cell?_setCell_far w ⟨b, o, none⟩ ⟨b', o', none⟩ u hne).trans h

theorem foldBPL {P : Program} {f : Func} {R : Ending -> World -> Prop} {e : Exit} {a : Act} {w : World} (h : ∀ w', w' = w -> bodyPost P f R e a w') : bodyPost P f R e a w := h w rfl
theorem two_putL {w W : World} {X R : Nat} {tX tR : TypeId} {p0 p1 q0 q1 q2 q3 : Value} (a b c d e f : Value) (hX : Blk W X tX #[p0, p1]) (hR : Blk W R tR #[q0, q1, q2, q3]) (hne : X ≠ R) (hB : Below w.heap.size w W) (h1 : w.heap.size <= X) (h2 : w.heap.size <= R) :
  Blk ((((((W.setCell ⟨X, 0, none⟩ a).setCell ⟨X, 1, none⟩ b).setCell ⟨R, 0, none⟩ c).setCell ⟨R, 1, none⟩ d).setCell ⟨R, 2, none⟩ e).setCell ⟨R, 3, none⟩ f) X tX #[a, b] /\
  Blk ((((((W.setCell ⟨X, 0, none⟩ a).setCell ⟨X, 1, none⟩ b).setCell ⟨R, 0, none⟩ c).setCell ⟨R, 1, none⟩ d).setCell ⟨R, 2, none⟩ e).setCell ⟨R, 3, none⟩ f) R tR #[c, d, e, f] /\
  Below w.heap.size w ((((((W.setCell ⟨X, 0, none⟩ a).setCell ⟨X, 1, none⟩ b).setCell ⟨R, 0, none⟩ c).setCell ⟨R, 1, none⟩ d).setCell ⟨R, 2, none⟩ e).setCell ⟨R, 3, none⟩ f) :=
 ⟨((((((hX.put 0 a #[a, p1] rfl).put 1 b #[a, b] rfl).far (p := ⟨R, 0, none⟩) hne c).far (p := ⟨R, 1, none⟩) hne d).far (p := ⟨R, 2, none⟩) hne e).far (p := ⟨R, 3, none⟩) hne f),
  ((((((hR.far (p := ⟨X, 0, none⟩) hne.symm a).far (p := ⟨X, 1, none⟩) hne.symm b).put 0 c #[c, q1, q2, q3] rfl).put 1 d #[c, d, q2, q3] rfl).put 2 e #[c, d, e, q3] rfl).put 3 f #[c, d, e, f] rfl),
  belC (belC (belC (belC (belC (belC hB _ _ h1 _) _ _ h1 _) _ _ h2 _) _ _ h2 _) _ _ h2 _) _ _ h2 _⟩

end Go.Proofs.YtjjniapamdleoaaGreatDoor
