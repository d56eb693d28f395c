/- The worlds of a file's writing. -/
import Derived.Test.YtajgenjfhcapjaaFwWrP
namespace Go.Proofs.Ytajgenjfhcapjaa
open Go Go.RowKit

structure WrW (w wr : World) (xS xF : Array Value) (gO gF g1 k1 g2 k2 : Nat) (sz : Int) (Ae : Option Addr) (ce : Nat) (s : WSt) : Prop where
  X : Blk wr w.heap.size 31 xS
  Y : Blk wr (w.heap.size + 1) 34 xF
  RS : Blk wr (w.heap.size + 2) 31 #[.slice none 0 0, .slice none 0 0]
  RF : Blk wr (w.heap.size + 3) 34 #[.int .i64 0, .slice none 0 0]
  O : Blk wr gO 31 #[.slice (some ⟨g1, 0, none⟩) 24 k1, .slice (some ⟨g2, 0, none⟩) 24 k2]
  F : Blk wr gF 34 #[.int .i64 sz, .slice Ae s.2.2.length ce]
  b1 : wr.ownsRow w.heap.size 4 1 (.slice (some ⟨g1, 0, none⟩) 24 k1) 24 (BS s.1)
  b2 : wr.ownsRow w.heap.size 9 1 (.slice (some ⟨g2, 0, none⟩) 24 k2) 24 (SS s.2.1)
  b3 : wr.ownsRow w.heap.size 76 3 (.slice Ae s.2.2.length ce) s.2.2.length (XS s.2.2)
  lO : w.heap.size + 4 ≤ gO
  lF : w.heap.size + 4 ≤ gF
  bel : Below w.heap.size w wr

section
variable {w wr wr' : World} {xS xF : Array Value} {gO gF g1 k1 g2 k2 : Nat} {sz : Int} {Ae : Option Addr} {ce : Nat} {s : WSt}
theorem WrW.next (h : WrW w wr xS xF gO gF g1 k1 g2 k2 sz Ae ce s) (hb : Below wr.heap.size wr wr') : WrW w wr' xS xF gO gF g1 k1 g2 k2 sz Ae ce s where
  X := h.X.below hb h.X.lt
  Y := h.Y.below hb h.Y.lt
  RS := h.RS.below hb h.RS.lt
  RF := h.RF.below hb h.RF.lt
  O := h.O.below hb h.O.lt
  F := h.F.below hb h.F.lt
  b1 := own_below h.b1 hb (Nat.le_refl _)
  b2 := own_below h.b2 hb (Nat.le_refl _)
  b3 := own_below h.b3 hb (Nat.le_refl _)
  lO := h.lO
  lF := h.lF
  bel := h.bel.trans (hb.mono h.bel.size)
theorem blk_gr {g g0 : Nat} {t : TypeId} {cs : Array Value} (h : Blk wr g0 t cs) {base n' size' c' : Nat} {e' : TypeId} {xs' : List Value}
    (hr : wr.ownsRow base e' size' (.slice (some ⟨g, 0, none⟩) n' c') n' xs') (hg : wr.grownBy wr' (some g)) (hne : t ≠ e') : Blk wr' g0 t cs := blk_grT h hr hg hne
theorem own_gr {base0 n0 size0 g : Nat} {e0 : TypeId} {v0 : Value} {xs0 : List Value} (h : wr.ownsRow base0 e0 size0 v0 n0 xs0) {base n' size' c' : Nat} {e' : TypeId} {xs' : List Value}
    (hr : wr.ownsRow base e' size' (.slice (some ⟨g, 0, none⟩) n' c') n' xs') (hg : wr.grownBy wr' (some g)) (hne : e0 ≠ e') : wr'.ownsRow base0 e0 size0 v0 n0 xs0 := own_grT h hr hg hne
theorem WrW.bit (h : WrW w wr xS xF gO gF g1 k1 g2 k2 sz Ae ce s) (b : Nat) (x : Bool) : WrW w (wr.setCell ⟨g1, b, none⟩ (.bool x)) xS xF gO gF g1 k1 g2 k2 sz Ae ce (s.1.set b x, s.2.1, s.2.2) := by
  have hg := only_sc (grown_refl wr (some g1)) b (.bool x)
  exact {
    X := blk_gr h.X h.b1 hg (by decide)
    Y := blk_gr h.Y h.b1 hg (by decide)
    RS := blk_gr h.RS h.b1 hg (by decide)
    RF := blk_gr h.RF h.b1 hg (by decide)
    O := blk_gr h.O h.b1 hg (by decide)
    F := blk_gr h.F h.b1 hg (by decide)
    b1 := by rw [← BS_set]; exact own_set h.b1 b _
    b2 := own_gr h.b2 h.b1 hg (by decide)
    b3 := own_gr h.b3 h.b1 hg (by decide)
    lO := h.lO
    lF := h.lF
    bel := belC h.bel _ _ (own_ltX h.b1).1 _ }
theorem WrW.dat (h : WrW w wr xS xF gO gF g1 k1 g2 k2 sz Ae ce s) {ds : List ByteArray} (hg : wr.grownBy wr' (some g2)) (ho : wr'.ownsRow w.heap.size 9 1 (.slice (some ⟨g2, 0, none⟩) 24 k2) 24 (SS ds)) :
    WrW w wr' xS xF gO gF g1 k1 g2 k2 sz Ae ce (s.1, ds, s.2.2) where
  X := blk_gr h.X h.b2 hg (by decide)
  Y := blk_gr h.Y h.b2 hg (by decide)
  RS := blk_gr h.RS h.b2 hg (by decide)
  RF := blk_gr h.RF h.b2 hg (by decide)
  O := blk_gr h.O h.b2 hg (by decide)
  F := blk_gr h.F h.b2 hg (by decide)
  b1 := own_gr h.b1 h.b2 hg (by decide)
  b2 := ho
  b3 := own_gr h.b3 h.b2 hg (by decide)
  lO := h.lO
  lF := h.lF
  bel := belG h.bel hg (own_ltX h.b2).1
theorem WrW.put (h : WrW w wr xS xF gO gF g1 k1 g2 k2 sz Ae ce s) (b : Nat) (t : ByteArray) : WrW w (wr.setCell ⟨g2, b, none⟩ (.string t)) xS xF gO gF g1 k1 g2 k2 sz Ae ce (s.1, s.2.1.set b t, s.2.2) :=
  h.dat (only_sc (grown_refl wr (some g2)) b (.string t)) (by rw [← SS_put]; exact own_set h.b2 b _)
theorem WrW.fil (h : WrW w wr xS xF gO gF g1 k1 g2 k2 sz Ae ce s) {Ae' : Option Addr} {ce' : Nat} {xs' : List ExtD} (ho : wr.ownsRow w.heap.size 76 3 (.slice Ae' xs'.length ce') xs'.length (XS xs')) :
    WrW w (wr.setCell ⟨gF, 1, none⟩ (.slice Ae' xs'.length ce')) xS xF gO gF g1 k1 g2 k2 sz Ae' ce' (s.1, s.2.1, xs') where
  X := h.X.far (p := ⟨gF, 1, none⟩) (by have := h.lF; simp only; omega) _
  Y := h.Y.far (p := ⟨gF, 1, none⟩) (by have := h.lF; simp only; omega) _
  RS := h.RS.far (p := ⟨gF, 1, none⟩) (by have := h.lF; simp only; omega) _
  RF := h.RF.far (p := ⟨gF, 1, none⟩) (by have := h.lF; simp only; omega) _
  O := h.O.far (p := ⟨gF, 1, none⟩) (fun e => Blk.ne_ h.O h.F (by decide) e) _
  F := h.F.put 1 _ _ rfl
  b1 := own_farT h.b1 h.F (by decide) 1 _
  b2 := own_farT h.b2 h.F (by decide) 1 _
  b3 := own_farT ho h.F (by decide) 1 _
  lO := h.lO
  lF := h.lF
  bel := belC h.bel _ _ (by have := h.lF; omega) _
theorem WrW.size_ (h : WrW w wr xS xF gO gF g1 k1 g2 k2 sz Ae ce s) (z : Int) : WrW w (wr.setCell ⟨gF, 0, none⟩ (.int .i64 z)) xS xF gO gF g1 k1 g2 k2 z Ae ce s where
  X := h.X.far (p := ⟨gF, 0, none⟩) (by have := h.lF; simp only; omega) _
  Y := h.Y.far (p := ⟨gF, 0, none⟩) (by have := h.lF; simp only; omega) _
  RS := h.RS.far (p := ⟨gF, 0, none⟩) (by have := h.lF; simp only; omega) _
  RF := h.RF.far (p := ⟨gF, 0, none⟩) (by have := h.lF; simp only; omega) _
  O := h.O.far (p := ⟨gF, 0, none⟩) (fun e => Blk.ne_ h.O h.F (by decide) e) _
  F := h.F.put 0 _ _ rfl
  b1 := own_farT h.b1 h.F (by decide) 0 _
  b2 := own_farT h.b2 h.F (by decide) 0 _
  b3 := own_farT h.b3 h.F (by decide) 0 _
  lO := h.lO
  lF := h.lF
  bel := belC h.bel _ _ (by have := h.lF; omega) _
end

/-- What a writing leaves. -/
def WrPost (w : World) (S : StoD) (F : FilD) (ok : Bool) (e : Ending) (w' : World) : Prop :=
  ∃ v u, e = .returned (.tuple #[v, u, .bool ok]) ∧ OwnSto w.heap.size v S w' ∧ OwnFil w.heap.size u F w' ∧ Below w.heap.size w w'
theorem wrPost_of {w w' : World} {S : StoD} {F : FilD} {ok : Bool} {v1 v2 v3 : Value} {sz : Int} (hsz : F.sz = sz) (h1 : w'.ownsRow w.heap.size 4 1 v1 S.bs.length (BS S.bs)) (h2 : w'.ownsRow w.heap.size 9 1 v2 S.ds.length (SS S.ds))
    (h3 : w'.ownsRow w.heap.size 76 3 v3 F.xs.length (XS F.xs)) (hb : Below w.heap.size w w') : WrPost w S F ok (.returned (.tuple #[.agg #[v1, v2], .agg #[.int .i64 sz, v3], .bool ok])) w' :=
  ⟨_, _, rfl, ⟨_, _, rfl, h1, h2⟩, ⟨_, by rw [hsz], h3⟩, hb⟩
theorem own_eqn {w : World} {base n m size : Nat} {e : TypeId} {v : Value} {xs : List Value} (h : w.ownsRow base e size v n xs) (hn : n = m) : w.ownsRow base e size v m xs := by subst hn; exact h

end Go.Proofs.Ytajgenjfhcapjaa
