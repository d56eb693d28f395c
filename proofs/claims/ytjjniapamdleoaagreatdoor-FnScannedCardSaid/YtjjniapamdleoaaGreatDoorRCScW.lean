/- What holds of the memory while the law FnScanned runs. -/
import Derived.Test.YtjjniapamdleoaaGreatDoorRCScC
namespace Go.Proofs.YtjjniapamdleoaaGreatDoor
open Go Go.RowKit

/-- A row stays when the other one grows. -/
def Dis (u v : Value) : Prop := u.ownBlock = none ∨ u.ownBlock ≠ v.ownBlock
section
variable {w w' : World} {base n size : Nat} {e : TypeId} {u v v' : Value} {xs : List Value}
theorem Dis.old (h : Dis u v) (hu : w.ownsRow base e size u n xs) (ha : v'.ownBlock = v.ownBlock ∨ v'.ownBlock = some w.heap.size) : Dis u v' := by
 rcases h with h | h
 ·exact .inl h
 ·rcases ha with ha | ha
  ·exact .inr (by rw [ha]; exact h)
  ·refine .inr (fun e => ?_)
   rw [ha] at e
   have := (hu.lt _ e).2
   omega
theorem Dis.new (h : Dis v u) (hu : w.ownsRow base e size u n xs) (ha : v'.ownBlock = v.ownBlock ∨ v'.ownBlock = some w.heap.size) : Dis v' u := by
 rcases ha with ha | ha
 ·unfold Dis
  rw [ha]
  exact h
 ·refine .inr (fun e => ?_)
  rw [ha] at e
  have := (hu.lt _ e.symm).2
  omega
/-- A row made anew, and one that was there. -/
theorem Dis.lit (hu : w.ownsRow base e size u n xs) {k c : Nat} : Dis u (.slice (some ⟨w.heap.size, 0, none⟩) k c) /\ Dis (.slice (some ⟨w.heap.size, 0, none⟩) k c) u := by
 have h1 : (Value.slice (some ⟨w.heap.size, 0, none⟩) k c).ownBlock = some w.heap.size := by simp [Value.ownBlock]
 constructor
 ·refine .inr (fun e => ?_)
  rw [h1] at e
  have := (hu.lt _ e).2
  omega
 ·refine .inr (fun e => ?_)
  rw [h1] at e
  have := (hu.lt _ e.symm).2
  omega
theorem own_box {b : Nat} {t : TypeId} {cs : Array Value} (h : w.ownsRow base e size v n xs) (hb : Blk w b t cs) (hne : e ≠ t) (j : Nat) (x : Value) : (w.setCell ⟨b, j, none⟩ x).ownsRow base e size v n xs :=
 h.kept (only_setCell (p := ⟨b, j, none⟩) (grown_refl w (some b)) (.inl rfl) x) (.inr (own_blk_ne h hb hne))
end
theorem YR.farT {w : World} {lo g c b : Nat} {t : TypeId} {cs : Array Value} {xs : List InoD} {vs : List Value} (h : YR w lo g c xs vs) (hb : Blk w b t cs) (h1 : 36 ≠ t) (h2 : 38 ≠ t) (j : Nat) (u : Value) : YR (w.setCell ⟨b, j, none⟩ u) lo g c xs vs :=
 ⟨own_box h.1 hb h1 j u, h.2.1, fun i hi => by
  obtain ⟨v, h3, h4⟩ := h.2.2 i hi
  exact ⟨v, h3, own_box h4 hb h2 j u⟩⟩
theorem YR.growS {w w' : World} {lo g c b n : Nat} {xs : List InoD} {vs : List Value} {v : Value} {ys : List Value} (h : YR w lo g c xs vs) (hv : w.ownsRow b 9 1 v n ys) (hg : w.grownBy w' v.ownBlock) : YR w' lo g c xs vs :=
 ⟨h.1.kept hg (own_ne2 h.1 hv (by decide)), h.2.1, fun i hi => by
  obtain ⟨u, h3, h4⟩ := h.2.2 i hi
  exact ⟨u, h3, h4.kept hg (own_ne2 h4 hv (by decide))⟩⟩
theorem Blk.growS {w w' : World} {b base n : Nat} {t : TypeId} {cs : Array Value} {v : Value} {ys : List Value} (h : Blk w b t cs) (hv : w.ownsRow base 9 1 v n ys) (hne : 9 ≠ t) (hg : w.grownBy w' v.ownBlock) : Blk w' b t cs :=
 h.grown hg (fun e => own_blk_ne hv h hne e.symm)
theorem Blk.growL {w w' : World} {b base n : Nat} {t : TypeId} {cs : Array Value} {v : Value} {ys : List Value} (h : Blk w b t cs) (hv : w.ownsRow base 9 1 v n ys) (hlt : b < base) (hg : w.grownBy w' v.ownBlock) : Blk w' b t cs :=
 h.grown hg (fun e => by have := (hv.lt b e.symm).1; omega)
/-- The cells of the law's names. -/
abbrev nmC : Array Value := #[.string ⟨#[97]⟩, .string ⟨#[98]⟩, .string ⟨#[195, 165]⟩, .string ⟨#[100]⟩, .string ⟨#[101]⟩, .string ⟨#[195, 159]⟩, .string ⟨#[103]⟩]
theorem nmC_get {k : Nat} (hk : k < nms.length) : nmC[k]? = some (.string nms[k]) := by
 have h7 : nms.length = 7 := rfl
 have hk7 : k < 7 := by omega
 match k, hk7 with
 | 0, _ => rfl
 | 1, _ => rfl
 | 2, _ => rfl
 | 3, _ => rfl
 | 4, _ => rfl
 | 5, _ => rfl
 | 6, _ => rfl
/-- The volume, the cursor, the names and three rows of texts, apart. -/
structure LawW (lo pv pc gN : Nat) (W : World) (V : VolD) (g c : Nat) (x y : Int) (va ve vs : Value) (all ever seen : List ByteArray) : Prop where
 hv : pv < lo
 hN : gN < lo
 hc : lo <= pc
 sz : lo <= W.heap.size
 kV : Blk W pv 26 #[.int .i64 V.nx, .slice (some ⟨g, 0, none⟩) V.xs.length c]
 yr : ∃ us, YR W 0 g c V.xs us
 kC : Blk W pc 61 #[.int .i64 1, .int .i64 x, .int .i64 y]
 kN : Blk W gN 9 nmC
 ra : W.ownsRow lo 9 1 va all.length (SS all)
 re : W.ownsRow lo 9 1 ve ever.length (SS ever)
 rs : W.ownsRow lo 9 1 vs seen.length (SS seen)
 ae : Dis va ve
 as_ : Dis va vs
 ea : Dis ve va
 es : Dis ve vs
 sa : Dis vs va
 se : Dis vs ve
section
variable {lo pv pc gN g c : Nat} {W W' : World} {V : VolD} {x y : Int} {va ve vs : Value} {all ever seen : List ByteArray}
theorem LawW.below (h : LawW lo pv pc gN W V g c x y va ve vs all ever seen) (hb : Below W.heap.size W W') : LawW lo pv pc gN W' V g c x y va ve vs all ever seen :=
 ⟨h.hv, h.hN, h.hc, Nat.le_trans h.sz hb.size, h.kV.below hb h.kV.lt, YRe.below h.yr hb, h.kC.below hb h.kC.lt, h.kN.below hb h.kN.lt, own_below h.ra hb (Nat.le_refl _), own_below h.re hb (Nat.le_refl _), own_below h.rs hb (Nat.le_refl _), h.ae, h.as_, h.ea, h.es, h.sa, h.se⟩
/-- Another volume. -/
theorem LawW.setV (h : LawW lo pv pc gN W V g c x y va ve vs all ever seen) {V' : VolD} {g' c' : Nat} (hy : ∃ us, YR W 0 g' c' V'.xs us) :
  LawW lo pv pc gN ((W.setCell ⟨pv, 0, none⟩ (.int .i64 V'.nx)).setCell ⟨pv, 1, none⟩ (.slice (some ⟨g', 0, none⟩) V'.xs.length c')) V' g' c' x y va ve vs all ever seen := by
 have k1 := h.kV.put 0 (.int .i64 V'.nx) #[.int .i64 V'.nx, .slice (some ⟨g, 0, none⟩) V.xs.length c] rfl
 have hpc := h.hc
 have hpv := h.hv
 have row : ∀ {v : Value} {L : List ByteArray}, W.ownsRow lo 9 1 v L.length (SS L) -> ((W.setCell ⟨pv, 0, none⟩ (.int .i64 V'.nx)).setCell ⟨pv, 1, none⟩ (.slice (some ⟨g', 0, none⟩) V'.xs.length c')).ownsRow lo 9 1 v L.length (SS L) :=
  fun hr => own_box (own_box hr h.kV (by decide) 0 _) k1 (by decide) 1 _
 have hNe : gN ≠ pv := Blk.ne_ h.kN h.kV (by decide)
 obtain ⟨us, hy⟩ := hy
 exact ⟨h.hv, h.hN, h.hc, by simpa using h.sz, k1.put 1 _ _ rfl, ⟨us, (hy.farV h.kV 0 _).farV k1 1 _⟩,
  (h.kC.far (p := ⟨pv, 0, none⟩) (show pc ≠ pv by omega) _).far (p := ⟨pv, 1, none⟩) (show pc ≠ pv by omega) _,
  (h.kN.far (p := ⟨pv, 0, none⟩) hNe _).far (p := ⟨pv, 1, none⟩) hNe _, row h.ra, row h.re, row h.rs, h.ae, h.as_, h.ea, h.es, h.sa, h.se⟩
/-- The cursor moves. -/
theorem LawW.setC (h : LawW lo pv pc gN W V g c x y va ve vs all ever seen) (x' y' : Int) :
  LawW lo pv pc gN (((W.setCell ⟨pc, 0, none⟩ (.int .i64 1)).setCell ⟨pc, 1, none⟩ (.int .i64 x')).setCell ⟨pc, 2, none⟩ (.int .i64 y')) V g c x' y' va ve vs all ever seen := by
 have k1 := h.kC.put 0 (.int .i64 1) #[.int .i64 1, .int .i64 x, .int .i64 y] rfl
 have k2 := k1.put 1 (.int .i64 x') #[.int .i64 1, .int .i64 x', .int .i64 y] rfl
 have hpc := h.hc
 have hpv := h.hv
 have hgn := h.hN
 have row : ∀ {v : Value} {L : List ByteArray}, W.ownsRow lo 9 1 v L.length (SS L) -> (((W.setCell ⟨pc, 0, none⟩ (.int .i64 1)).setCell ⟨pc, 1, none⟩ (.int .i64 x')).setCell ⟨pc, 2, none⟩ (.int .i64 y')).ownsRow lo 9 1 v L.length (SS L) :=
  fun hr => own_box (own_box (own_box hr h.kC (by decide) 0 _) k1 (by decide) 1 _) k2 (by decide) 2 _
 obtain ⟨us, hy⟩ := h.yr
 exact ⟨h.hv, h.hN, h.hc, by simpa using h.sz,
  ((h.kV.far (p := ⟨pc, 0, none⟩) (show pv ≠ pc by omega) _).far (p := ⟨pc, 1, none⟩) (show pv ≠ pc by omega) _).far (p := ⟨pc, 2, none⟩) (show pv ≠ pc by omega) _,
  ⟨us, ((hy.farT h.kC (by decide) (by decide) 0 _).farT k1 (by decide) (by decide) 1 _).farT k2 (by decide) (by decide) 2 _⟩, k2.put 2 _ _ rfl,
  ((h.kN.far (p := ⟨pc, 0, none⟩) (show gN ≠ pc by omega) _).far (p := ⟨pc, 1, none⟩) (show gN ≠ pc by omega) _).far (p := ⟨pc, 2, none⟩) (show gN ≠ pc by omega) _,
  row h.ra, row h.re, row h.rs, h.ae, h.as_, h.ea, h.es, h.sa, h.se⟩
theorem SS_snoc1 (l : List ByteArray) (n : ByteArray) : SS l ++ [.string n] = SS (l ++ [n]) := by simp [SS]
/-- One more was ever there. -/
theorem LawW.appE (h : LawW lo pv pc gN W V g c x y va ve vs all ever seen) {ve' : Value} {n : ByteArray} (ho : W'.ownsRow lo 9 1 ve' (ever.length + 1) (SS ever ++ [.string n])) (hg : W.grownBy W' ve.ownBlock) (ha : ve'.ownBlock = ve.ownBlock ∨ ve'.ownBlock = some W.heap.size) (hb : Below lo W W') :
  LawW lo pv pc gN W' V g c x y va ve' vs all (ever ++ [n]) seen := by
 obtain ⟨us, hy⟩ := h.yr
 exact ⟨h.hv, h.hN, h.hc, Nat.le_trans h.sz hb.size, h.kV.growS h.re (by decide) hg, ⟨us, hy.growS h.re hg⟩, h.kC.growS h.re (by decide) hg, h.kN.growL h.re h.hN hg, h.ra.kept hg h.ae,
  by rw [List.length_append, <- SS_snoc1]; exact ho, h.rs.kept hg h.se, h.ae.old h.ra ha, h.as_, h.ea.new h.ra ha, h.es.new h.rs ha, h.sa, h.se.old h.rs ha⟩
/-- One more is seen. -/
theorem LawW.appS (h : LawW lo pv pc gN W V g c x y va ve vs all ever seen) {vs' : Value} {n : ByteArray} (ho : W'.ownsRow lo 9 1 vs' (seen.length + 1) (SS seen ++ [.string n])) (hg : W.grownBy W' vs.ownBlock) (ha : vs'.ownBlock = vs.ownBlock ∨ vs'.ownBlock = some W.heap.size) (hb : Below lo W W') :
  LawW lo pv pc gN W' V g c x y va ve vs' all ever (seen ++ [n]) := by
 obtain ⟨us, hy⟩ := h.yr
 exact ⟨h.hv, h.hN, h.hc, Nat.le_trans h.sz hb.size, h.kV.growS h.rs (by decide) hg, ⟨us, hy.growS h.rs hg⟩, h.kC.growS h.rs (by decide) hg, h.kN.growL h.rs h.hN hg, h.ra.kept hg h.as_, h.re.kept hg h.es,
  by rw [List.length_append, <- SS_snoc1]; exact ho, h.ae, h.as_.old h.ra ha, h.ea, h.es.old h.re ha, h.sa.new h.ra ha, h.se.new h.re ha⟩
/-- A row of what is left is made beside the three. -/
structure LeftW (lo : Nat) (W : World) (va ve vs vl : Value) (left : List ByteArray) : Prop where
 rl : W.ownsRow lo 9 1 vl left.length (SS left)
 al : Dis va vl
 el : Dis ve vl
 sl : Dis vs vl
 le : Dis vl ve
 ls : Dis vl vs
theorem LawW.growL (h : LawW lo pv pc gN W V g c x y va ve vs all ever seen) {vl : Value} {left : List ByteArray} (k : LeftW lo W va ve vs vl left) (hg : W.grownBy W' vl.ownBlock) (hb : Below lo W W') : LawW lo pv pc gN W' V g c x y va ve vs all ever seen := by
 obtain ⟨us, hy⟩ := h.yr
 exact ⟨h.hv, h.hN, h.hc, Nat.le_trans h.sz hb.size, h.kV.growS k.rl (by decide) hg, ⟨us, hy.growS k.rl hg⟩, h.kC.growS k.rl (by decide) hg, h.kN.growL k.rl h.hN hg, h.ra.kept hg k.al, h.re.kept hg k.el, h.rs.kept hg k.sl, h.ae, h.as_, h.ea, h.es, h.sa, h.se⟩
theorem LeftW.below {vl : Value} (k : LeftW lo W va ve vs vl all) (hb : Below W.heap.size W W') : LeftW lo W' va ve vs vl all := ⟨own_below k.rl hb (Nat.le_refl _), k.al, k.el, k.sl, k.le, k.ls⟩
theorem LeftW.app (h : LawW lo pv pc gN W V g c x y va ve vs all ever seen) {vl vl' : Value} {left : List ByteArray} {n : ByteArray} (k : LeftW lo W va ve vs vl left) (ho : W'.ownsRow lo 9 1 vl' (left.length + 1) (SS left ++ [.string n])) (ha : vl'.ownBlock = vl.ownBlock ∨ vl'.ownBlock = some W.heap.size) : LeftW lo W' va ve vs vl' (left ++ [n]) :=
 ⟨by rw [List.length_append, <- SS_snoc1]; exact ho, k.al.old h.ra ha, k.el.old h.re ha, k.sl.old h.rs ha, k.le.new h.re ha, k.ls.new h.rs ha⟩
theorem LeftW.lit (h : LawW lo pv pc gN W V g c x y va ve vs all ever seen) : LeftW lo (W.alloc (.cells #[] 9)) va ve vs (.slice (some ⟨W.heap.size, 0, none⟩) 0 0) [] := by
 have h1 := Dis.lit h.ra (k := 0) (c := 0)
 have h2 := Dis.lit h.re (k := 0) (c := 0)
 have h3 := Dis.lit h.rs (k := 0) (c := 0)
 have h4 := World.ownsRow_lit W #[] 0 (base := lo) (e := 9) (size := 1) h.sz (by unfold maxLen; omega) rfl
 exact ⟨by simpa [SS] using h4, h1.1, h2.1, h3.1, h2.2, h3.2⟩
/-- What is left is what all are now. -/
theorem LawW.newA (h : LawW lo pv pc gN W V g c x y va ve vs all ever seen) {vl : Value} {left : List ByteArray} (k : LeftW lo W va ve vs vl left) : LawW lo pv pc gN W V g c x y vl ve vs left ever seen :=
 ⟨h.hv, h.hN, h.hc, h.sz, h.kV, h.yr, h.kC, h.kN, k.rl, h.re, h.rs, k.le, k.ls, k.el, h.es, k.sl, h.se⟩
end

end Go.Proofs.YtjjniapamdleoaaGreatDoor
