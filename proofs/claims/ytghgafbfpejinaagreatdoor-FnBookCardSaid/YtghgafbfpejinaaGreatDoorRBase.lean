/- Words for memory over any program; plain facts on numbers and texts; the walks of the functions on numbers; reading a text; rows of one's own. -/
import Derived.WalkKit
import Derived.WalkSpells
import Derived.WalkLawsBesides
import Derived.Below
import Derived.Laws.OwnMore
import Derived.Deep.AppendLies
import Derived.Deep.Draws
import Derived.Laws.Rows
import Derived.Maps.AppendAt
import Derived.RegionTactic
import Derived.OwnWalk
import Derived.Deep.OwnRows
import Derived.Deep.QuietTactic
import Derived.Laws.AppendOwn
import Derived.Laws.BitsAllLaws
import Derived.Laws.BitsLemmas
import Derived.Laws.MakeOwn
import Derived.Laws.BytesArg
import Derived.Lib.Hide
import Derived.OrdersHeld
import Derived.Test.YtghgafbfpejinaaGreatDoorRows
import Derived.Deep.DeepMust
import Derived.Lib.Strings
import Derived.Deep.RegionHeld3
namespace Go.Proofs.YtghgafbfpejinaaGreatDoor
open Go Go.RowKit

theorem block_of_add (a : Addr) (n : Nat) : (a.add n).block = a.block := by unfold Addr.add; split <;> rfl
def Reads (w : World) (B size : Nat) (A : Option Addr) (n : Nat) (xs : List Value) : Prop :=
 xs.length = n * size ∧ (0 < n → ∃ ad, A = some ad ∧ ad.block < B ∧ ∀ j u, xs[j]? = some u → w.cell? (ad.add j) = some u)

section
variable {w w' : World} {B B' size n : Nat} {A : Option Addr} {xs : List Value}
theorem Reads.none_ : Reads w B size A 0 [] := ⟨by simp, fun h => absurd h (by omega)⟩
theorem Reads.at_ {k : Nat} (h : Reads w B 1 A n xs) (hk : k < n) : ∃ ad u, A = some ad ∧ ad.block < B ∧ xs[k]? = some u ∧ w.cell? (ad.add k) = some u := by
 obtain ⟨ad, e, hb, hc⟩ := h.2 (by omega)
 have hl : k < xs.length := by have := h.1; omega
 exact ⟨ad, xs[k], e, hb, List.getElem?_eq_getElem hl, hc k _ (List.getElem?_eq_getElem hl)⟩
theorem Reads.keep (h : Reads w B size A n xs) (hk : ∀ p : Addr, p.block < B → w'.cell? p = w.cell? p) : Reads w' B size A n xs :=
 ⟨h.1, fun hn => by
  obtain ⟨ad, e, hb, hc⟩ := h.2 hn
  exact ⟨ad, e, hb, fun j u hu => (hk _ (by rw [block_of_add]; exact hb)).trans (hc j u hu)⟩⟩
theorem Reads.more (h : Reads w B size A n xs) (hB : B ≤ B') : Reads w B' size A n xs :=
 ⟨h.1, fun hn => by
  obtain ⟨ad, e, hb, hc⟩ := h.2 hn
  exact ⟨ad, e, by omega, hc⟩⟩
theorem Reads.below (h : Reads w B size A n xs) (hb : Below B w w') : Reads w' B size A n xs := h.keep fun _ hp => hb.cell hp
theorem Reads.drew (h : Reads w B size A n xs) : Reads w.drew B size A n xs := h
theorem Reads.drewN (h : Reads w B size A n xs) (k : Nat) : Reads (w.drewN k) B size A n xs := h
theorem Reads.of_own {base : Nat} {e : TypeId} {c : Nat} (h : w.ownsRow base e size (.slice A n c) n xs) : Reads w w.heap.size size A n xs := by
 refine ⟨h.1, fun hn => ?_⟩
 obtain ⟨g, cap, hv, _, hlt⟩ := h.form hn
 have hA : A = some ⟨g, 0, none⟩ := by injection hv
 subst hA
 exact ⟨_, rfl, hlt, h.cells (g := g) rfl⟩
end

def Blk (w : World) (g : Nat) (t : TypeId) (cs : Array Value) : Prop := w.heap[g]? = some (.cells cs t (0, 0))

section
variable {w w' : World} {g : Nat} {t : TypeId} {cs : Array Value}
theorem Blk.lt (h : Blk w g t cs) : g < w.heap.size := by
 rcases Nat.lt_or_ge g w.heap.size with hlt | hge
 ·exact hlt
 ·unfold Blk at h; rw [Array.getElem?_eq_none hge] at h; cases h
theorem Blk.cell (h : Blk w g t cs) (i : Nat) : w.cell? ⟨g, i, none⟩ = cs[i]? := cell_of_row w g i cs t (0, 0) h
theorem Blk.frozen (h : Blk w g t cs) (i : Nat) : w.frozen? ⟨g, i, none⟩ = false := by
 unfold Blk at h
 simp [World.frozen?, h]
theorem Blk.new (w : World) (t : TypeId) (cs : Array Value) : Blk (w.alloc (.cells cs t)) w.heap.size t cs := heap_alloc_new w _
theorem Blk.drew (h : Blk w g t cs) : Blk w.drew g t cs := h
theorem Blk.drewN (h : Blk w g t cs) (n : Nat) : Blk (w.drewN n) g t cs := h
theorem Blk.alloc (h : Blk w g t cs) (o : Obj) : Blk (w.alloc o) g t cs := (Below.heap_alloc w o g h.lt).trans h
theorem Blk.set_ (h : Blk w g t cs) (i : Nat) (u : Value) : Blk (w.setCell ⟨g, i, none⟩ u) g t (cs.setIfInBounds i u) := by
 unfold Blk at h ⊢
 simp [World.setCell, Array.getElem?_modify, h]
theorem Blk.far (h : Blk w g t cs) {p : Addr} (hp : g ≠ p.block) (u : Value) : Blk (w.setCell p u) g t cs := (Below.heap_setCell w p u g hp).trans h
theorem Blk.below {B : Nat} (h : Blk w g t cs) (hb : Below B w w') (hg : g < B) : Blk w' g t cs := (hb.block g hg).trans h
theorem Blk.grown {row : Option Nat} (h : Blk w g t cs) (hb : w.grownBy w' row) (hg : some g ≠ row) : Blk w' g t cs := (hb.block g h.lt hg).trans h
end

section
variable {P : Program} (w : World)

theorem run_append_of_nil (base : Nat) (t ty e : TypeId) (i : TypeInfo) (size : Nat) (ht : P.underlying t = some (.slice e)) (hi : P.info? e = some i)
  (v : Value) (n : Nat) (xs : List Value) (hown : w.ownsRow base e size v n xs) (c : Nat) : (Builtin.append_ #[t, t] ty #[v, .slice none 0 c]).run P w = .ok v w := by
 rcases hown.2 with ⟨rfl, rfl⟩ | ⟨g, cap, cur, rfl, _, _, hnc, _⟩
 ·simp [Builtin.append_, run_underlying ht, sizeOf, typeInfo, hi, Builtin.lenOf, Builtin.firstCells]
 ·simp [Builtin.append_, run_underlying ht, sizeOf, typeInfo, hi, Builtin.lenOf, Builtin.firstCells, hnc, storeCells]

theorem run_append_any (base : Nat) (t ty e : TypeId) (i : TypeInfo) (z : Value) (size bytes : Nat) (ht : P.underlying t = some (.slice e)) (hi : P.info? e = some i) (hz : i.zero = some z)
  (hsize : i.size = size) (hby : i.bytes = bytes) (hzs : z.cells.size = size) (hsz : 0 < size)
  (v : Value) (n : Nat) (xs : List Value) (hown : w.ownsRow base e size v n xs)
  (B : Nat) (A : Option Addr) (m c : Nat) (news : List Value) (hr : Reads w B size A m news) (h1 : ∀ u ∈ news, u.oneCell' = true)
  (h63 : n + m ≤ maxLen) (hbytes : (n + m) * bytes ≤ 140737488355328) (hbase : base ≤ w.heap.size) :
  ∃ v' w', (Builtin.append_ #[t, t] ty #[v, .slice A m c]).run P w = .ok v' w' ∧ w'.ownsRow base e size v' (n + m) (xs ++ news) ∧ w.grownBy w' v.ownBlock ∧
   (v'.ownBlock = v.ownBlock ∨ v'.ownBlock = some w.heap.size) := by
 rcases A with _ | ad
 ·have hm : m = 0 := by
   rcases Nat.eq_zero_or_pos m with h0 | h0
   ·exact h0
   ·obtain ⟨ad, h, _⟩ := hr.2 h0
    cases h
  subst hm
  have hn : news = [] := List.eq_nil_of_length_eq_zero (by simpa using hr.1)
  subst hn
  exact ⟨v, w, run_append_of_nil w base t ty e i size ht hi v n xs hown c, by simpa using hown, World.grownBy.refl w _, .inl rfl⟩
 ·have hcells : ∀ j u, news[j]? = some u → w.cell? (ad.add j) = some u := by
   intro j u hu
   rcases Nat.eq_zero_or_pos m with h0 | h0
   ·subst h0
    have hn : news = [] := List.eq_nil_of_length_eq_zero (by simpa using hr.1)
    subst hn
    simp at hu
   ·obtain ⟨ad', h, _, hc⟩ := hr.2 h0
    injection h with h
    subst h
    exact hc j u hu
  obtain ⟨v', w', hrun, h2, h3, _, h5⟩ := run_append_own_at (P := P) w base t ty e i z size bytes ht hi hz hsize hby hzs hsz v n xs hown ad m c news hr.1 hcells h1 h63 hbytes hbase
  exact ⟨v', w', hrun, h2, h3, h5⟩

theorem wp_append_any {o : Oper} {a : Act} {K : Act → World → Prop} {Q : Exit → Act → World → Prop} (s x : Operand) (t : TypeId)
  (ho : o.op = .call { callee := .builtin .append, args := #[s, x], argTypes := #[t, t] })
  (base : Nat) (e : TypeId) (i : TypeInfo) (z : Value) (size bytes : Nat) (ht : P.underlying t = some (.slice e)) (hi : P.info? e = some i) (hz : i.zero = some z)
  (hsize : i.size = size) (hby : i.bytes = bytes) (hzs : z.cells.size = size) (hsz : 0 < size)
  (v : Value) (n : Nat) (xs : List Value) (hs : a.eval s = v) (hown : w.ownsRow base e size v n xs)
  (B : Nat) (A : Option Addr) (m c : Nat) (news : List Value) (hx : a.eval x = .slice A m c) (hr : Reads w B size A m news) (h1 : ∀ u ∈ news, u.oneCell' = true)
  (h63 : n + m ≤ maxLen) (hbytes : (n + m) * bytes ≤ 140737488355328) (hbase : base ≤ w.heap.size)
  (h : ∀ v' w', w'.ownsRow base e size v' (n + m) (xs ++ news) → w.grownBy w' v.ownBlock → (v'.ownBlock = v.ownBlock ∨ v'.ownBlock = some w.heap.size) → K (a.put o.dst v') w') : o.wp P a w K Q := by
 obtain ⟨v', w', hrun, h2, h3, h4⟩ := run_append_any (P := P) w base t o.type e i z size bytes ht hi hz hsize hby hzs hsz v n xs hown B A m c news hr h1 h63 hbytes hbase
 unfold Oper.wp execOp
 simp only [ho, resolve, invoke, builtin, Sem.run_bind, Sem.run_pure, Result.andThen_ok, List.map_toArray, List.map_cons, List.map_nil, hs, hx, hrun]
 exact h v' w' h2 h3 h4

theorem wpList_append_any {ops : Array Oper} {rest : List Oper} {o : Oper} {a : Act} {Q : Exit → Act → World → Prop} (hgd : o.guard = none) (s x : Operand) (t : TypeId)
  (ho : o.op = .call { callee := .builtin .append, args := #[s, x], argTypes := #[t, t] })
  (base : Nat) (e : TypeId) (i : TypeInfo) (z : Value) (size bytes : Nat) (ht : P.underlying t = some (.slice e)) (hi : P.info? e = some i) (hz : i.zero = some z)
  (hsize : i.size = size) (hby : i.bytes = bytes) (hzs : z.cells.size = size) (hsz : 0 < size)
  (v : Value) (n : Nat) (xs : List Value) (hs : a.eval s = v) (hown : w.ownsRow base e size v n xs)
  (B : Nat) (A : Option Addr) (m c : Nat) (news : List Value) (hx : a.eval x = .slice A m c) (hr : Reads w B size A m news) (h1 : ∀ u ∈ news, u.oneCell' = true)
  (h63 : n + m ≤ maxLen) (hbytes : (n + m) * bytes ≤ 140737488355328) (hbase : base ≤ w.heap.size)
  (h : ∀ v' w', w'.ownsRow base e size v' (n + m) (xs ++ news) → w.grownBy w' v.ownBlock → (v'.ownBlock = v.ownBlock ∨ v'.ownBlock = some w.heap.size) → wpList P ops Q rest (a.put o.dst v') w') : wpList P ops Q (o :: rest) a w :=
 wpList_plain hgd fun _ hK => wp_append_any w s x t ho base e i z size bytes ht hi hz hsize hby hzs hsz v n xs hs hown B A m c news hx hr h1 h63 hbytes hbase fun v' w' h2 h3 h4 => hK _ _ (h v' w' h2 h3 h4)

theorem step_append_any {ops : Array Oper} {o : Oper} {a : Act} {K : Act → World → Prop} {Q : Exit → Act → World → Prop} {E : Prop} (hgd : o.guard = none) (s x : Operand) (t : TypeId)
  (ho : o.op = .call { callee := .builtin .append, args := #[s, x], argTypes := #[t, t] })
  (base : Nat) (e : TypeId) (i : TypeInfo) (z : Value) (size bytes : Nat) (ht : P.underlying t = some (.slice e)) (hi : P.info? e = some i) (hz : i.zero = some z)
  (hsize : i.size = size) (hby : i.bytes = bytes) (hzs : z.cells.size = size) (hsz : 0 < size)
  (v : Value) (n : Nat) (xs : List Value) (hs : a.eval s = v) (hown : w.ownsRow base e size v n xs)
  (B : Nat) (A : Option Addr) (m c : Nat) (news : List Value) (hx : a.eval x = .slice A m c) (hr : Reads w B size A m news) (h1 : ∀ u ∈ news, u.oneCell' = true)
  (h63 : n + m ≤ maxLen) (hbytes : (n + m) * bytes ≤ 140737488355328) (hbase : base ≤ w.heap.size)
  (h : ∀ v' w', w'.ownsRow base e size v' (n + m) (xs ++ news) → w.grownBy w' v.ownBlock → (v'.ownBlock = v.ownBlock ∨ v'.ownBlock = some w.heap.size) → K (a.put o.dst v') w') :
  if Region.wanted o (yielded ops a.tmps) = true then Oper.wp P o a w K Q else E := by
 have hw : Region.wanted o (yielded ops a.tmps) = true := by simp [Region.wanted, hgd]
 rw [if_pos hw]
 exact wp_append_any w s x t ho base e i z size bytes ht hi hz hsize hby hzs hsz v n xs hs hown B A m c news hx hr h1 h63 hbytes hbase h
end

theorem below_drewN {B : Nat} {a w : World} (h : Below B a w) (n : Nat) : Below B a (w.drewN n) := ⟨h.os, h.tape, h.output, h.size, h.block⟩
theorem only_drewN {a w : World} {row : Option Nat} (h : a.grownBy w row) (n : Nat) : a.grownBy (w.drewN n) row := ⟨h.os, h.tape, h.output, h.size, h.block⟩
theorem only_drew {a w : World} {row : Option Nat} (h : a.grownBy w row) : a.grownBy w.drew row := ⟨h.os, h.tape, h.output, h.size, h.block⟩
theorem only_setCell {a w : World} {g : Nat} (h : a.grownBy w (some g)) {p : Addr} (hp : p.block = g ∨ a.heap.size ≤ p.block) (u : Value) : a.grownBy (w.setCell p u) (some g) :=
 ⟨h.os, h.tape, h.output, by simpa [World.setCell] using h.size, fun i hi hne => (Below.heap_setCell w p u i (by
  rintro rfl
  rcases hp with hp | hp
  ·exact hne (by rw [hp])
  ·omega)).trans (h.block i hi hne)⟩
theorem only_of_below {a w : World} (h : Below a.heap.size a w) (row : Option Nat) : a.grownBy w row := ⟨h.os, h.tape, h.output, h.size, fun i hi _ => h.block i hi⟩

theorem ofInt_i64 (a : Nat) (ha : a < 9223372036854775808) : (BitVec.ofInt 64 (a : Int)).toNat = a := by
 rw [BitVec.ofInt_natCast, BitVec.toNat_ofNat]; exact Nat.mod_eq_of_lt (by omega)
theorem i64_and_nat (a b : Nat) (ha : a < 9223372036854775808) (hb : b < 9223372036854775808) : bits .and .i64 (a : Int) (b : Int) = ((a &&& b : Nat) : Int) := by
 have hx : a &&& b < 2 ^ 63 := Nat.and_lt_two_pow _ (by omega)
 show IntKind.i64.wrap ((BitVec.ofInt 64 (a : Int) &&& BitVec.ofInt 64 (b : Int)).toNat : Int) = _
 rw [BitVec.toNat_and, ofInt_i64 a ha, ofInt_i64 b hb, IntKind.wrap_i64]
 omega
theorem i64_or_nat (a b : Nat) (ha : a < 9223372036854775808) (hb : b < 9223372036854775808) : bits .or .i64 (a : Int) (b : Int) = ((a ||| b : Nat) : Int) := by
 have hx : a ||| b < 2 ^ 63 := Nat.or_lt_two_pow (by omega) (by omega)
 show IntKind.i64.wrap ((BitVec.ofInt 64 (a : Int) ||| BitVec.ofInt 64 (b : Int)).toNat : Int) = _
 rw [BitVec.toNat_or, ofInt_i64 a ha, ofInt_i64 b hb, IntKind.wrap_i64]
 omega
theorem i64_xor_nat (a b : Nat) (ha : a < 9223372036854775808) (hb : b < 9223372036854775808) : bits .xor .i64 (a : Int) (b : Int) = ((a ^^^ b : Nat) : Int) := by
 have hx : a ^^^ b < 2 ^ 63 := Nat.xor_lt_two_pow (by omega) (by omega)
 show IntKind.i64.wrap ((BitVec.ofInt 64 (a : Int) ^^^ BitVec.ofInt 64 (b : Int)).toNat : Int) = _
 rw [BitVec.toNat_xor, ofInt_i64 a ha, ofInt_i64 b hb, IntKind.wrap_i64]
 omega

/-! ### What a slice type's elements are, in one word -/
structure ElemOk (P : Program) (t e : TypeId) (z : Value) (size bytes : Nat) : Prop where
 ht : P.underlying t = some (.slice e)
 hi : (P.info? e).map (fun i => (i.zero, i.size, i.bytes)) = some (some z, size, bytes)
 hzs : z.cells.size = size
 hsz : 0 < size

theorem below_grownBy {w w' : World} {base n size : Nat} {e : TypeId} {v : Value} {xs : List Value} (hown : w.ownsRow base e size v n xs) (hg : w.grownBy w' v.ownBlock) (hb : base ≤ w.heap.size) : Below base w w' :=
 (Below.refl _ _).grown hg hb fun k hk => (hown.lt k hk).1

theorem own_below {w w' : World} {base n size : Nat} {e : TypeId} {v : Value} {xs : List Value} (hown : w.ownsRow base e size v n xs) {B : Nat} (hb : Below B w w') (hB : w.heap.size ≤ B) : w'.ownsRow base e size v n xs := by
 obtain ⟨h1, h2⟩ := hown
 refine ⟨h1, ?_⟩
 rcases h2 with h2 | ⟨g, cap, cur, hv, hg, hh, r⟩
 ·exact .inl h2
 ·refine .inr ⟨g, cap, cur, hv, hg, ?_, r⟩
  have hlt : g < w.heap.size := (Array.getElem?_eq_some_iff.1 hh).1
  rw [hb.block g (by omega)]
  exact hh

theorem own_more {w : World} {base base' n size : Nat} {e : TypeId} {v : Value} {xs : List Value} (hown : w.ownsRow base e size v n xs) (hB : base' ≤ base) : w.ownsRow base' e size v n xs := by
 obtain ⟨h1, h2⟩ := hown
 refine ⟨h1, ?_⟩
 rcases h2 with h2 | ⟨g, cap, cur, hv, hg, hh, r⟩
 ·exact .inl h2
 ·exact .inr ⟨g, cap, cur, hv, by omega, hh, r⟩

section
variable {P : Program} (w : World)
/-- append onto a row of the call's own: the source nil, empty or not; what comes back; that below the row's base nothing has turned. -/
theorem wpList_app {ops : Array Oper} {rest : List Oper} {o : Oper} {a : Act} {Q : Exit → Act → World → Prop} (hgd : o.guard = none) (s x : Operand) (t : TypeId)
  (ho : o.op = .call { callee := .builtin .append, args := #[s, x], argTypes := #[t, t] })
  {e : TypeId} {z : Value} {size bytes : Nat} (hE : ElemOk P t e z size bytes)
  {base : Nat} {v : Value} {n : Nat} {xs : List Value} (hown : w.ownsRow base e size v n xs) (hs : a.eval s = v)
  {B : Nat} {A : Option Addr} {m c : Nat} {news : List Value} (hr : Reads w B size A m news) (hx : a.eval x = .slice A m c) (h1 : ∀ u ∈ news, u.oneCell' = true)
  (h63 : n + m ≤ maxLen) (hbytes : (n + m) * bytes ≤ 140737488355328) (hbase : base ≤ w.heap.size)
  (h : ∀ v' w', w'.ownsRow base e size v' (n + m) (xs ++ news) → w.grownBy w' v.ownBlock → (v'.ownBlock = v.ownBlock ∨ v'.ownBlock = some w.heap.size) → Below base w w' → wpList P ops Q rest (a.put o.dst v') w') : wpList P ops Q (o :: rest) a w := by
 obtain ⟨i, hi, hz, hsize, hby⟩ := info_parts hE.hi
 exact wpList_append_any w hgd s x t ho base e i z size bytes hE.ht hi hz hsize hby hE.hzs hE.hsz v n xs hs hown B A m c news hx hr h1 h63 hbytes hbase fun v' w' h2 h3 h4 => h v' w' h2 h3 h4 (below_grownBy hown h3 hbase)

theorem reads_new (cs : Array Value) (e : TypeId) (size m : Nat) (hs : cs.size = m * size) :
  Reads (w.alloc (.cells cs e)) (w.heap.size + 1) size (some ⟨w.heap.size, 0, none⟩) m cs.toList := by
 refine ⟨by simpa using hs, fun _ => ⟨_, rfl, by simp, fun j u hu => ?_⟩⟩
 have ha : (⟨w.heap.size, 0, none⟩ : Addr).add j = ⟨w.heap.size, j, none⟩ := by unfold Addr.add; split <;> simp_all
 rw [ha, World.cell?_alloc_at _ _ _ _ rfl]
 simpa using hu

end

/-! ### Texts -/
/-- A text of bytes. -/
def str (l : List UInt8) : ByteArray := ⟨l.toArray⟩
theorem str_list (l : List UInt8) : (str l).data.toList = l := rfl
theorem str_size (l : List UInt8) : (str l).size = l.length := by simp [str, ByteArray.size]
theorem str_of (s : ByteArray) : str s.data.toList = s := by cases s; simp [str]
theorem bytes_ext {a b : ByteArray} (h : a.data.toList = b.data.toList) : a = b := by rw [← str_of a, ← str_of b, h]
theorem append_list (a b : ByteArray) : (a ++ b).data.toList = a.data.toList ++ b.data.toList := by rw [ByteArray.data_append, Array.toList_append]
theorem size_list (s : ByteArray) : s.data.toList.length = s.size := Array.length_toList

/-- Bytes as cells. -/
def B8 (l : List UInt8) : List Value := l.map fun b => .int .u8 b.toNat
theorem B8_length (l : List UInt8) : (B8 l).length = l.length := by simp [B8]
theorem B8_append (a b : List UInt8) : B8 (a ++ b) = B8 a ++ B8 b := by simp [B8]
theorem B8_cells (l : List UInt8) : ∀ u ∈ B8 l, u.oneCell' = true := by
 intro u hu
 simp only [B8, List.mem_map] at hu
 obtain ⟨b, _, rfl⟩ := hu
 rfl

theorem strOfNums_B8 (l : List UInt8) : strOfNums (l.map fun b => (b.toNat : Int)) = str l := by
 apply bytes_ext
 rw [strOfNums_data, str_list, List.map_map]
 conv => rhs; rw [← List.map_id l]
 apply List.map_congr_left
 intro b _
 simp

theorem run_convert_own {P : Program} {w : World} {src dst e : TypeId} (hs : P.underlying src = some (.slice e)) (he : P.underlying e = some (.int .u8)) (hd : P.underlying dst = some .string)
  {base n : Nat} {v : Value} {l : List UInt8} (hown : w.ownsRow base e 1 v n (B8 l)) : (convert src dst v).run P w = .ok (.string (str l)) w := by
 rcases hown.2 with ⟨rfl, rfl⟩ | ⟨g, cap, cur, rfl, hb, hg, hn, hc, hsz, htake⟩
 ·have : l = [] := List.eq_nil_of_length_eq_zero (by simpa [B8_length] using hown.1)
  subst this
  exact run_convert_bytes_nil w src e hs he 0 0 dst hd
 ·have hl : l.length = n := by simpa [B8_length] using hown.1
  rw [← strOfNums_B8]
  refine run_convert_bytes_arg w src e hs he g 0 n cap _ (by simpa using hl) (fun i hi => ?_) dst hd
  rw [cell_of_row w g (0 + i) cur e (0, 0) hg]
  have hcur : cur.toList[i]? = (B8 l)[i]? := by
   rw [← htake, List.getElem?_take, if_pos (by omega)]
  rw [Nat.zero_add, ← Array.getElem?_toList, hcur]
  simp [B8, List.getD, List.getElem?_eq_getElem (show i < l.length by omega)]

theorem toNat_ofNat (n : Nat) (h : n < 256) : (UInt8.ofNat n).toNat = n := by
 rw [UInt8.toNat_ofNat']; omega

/-! ### Below, step by step, from the world in which the call began -/
theorem bel0 (a : World) : Below a.heap.size a a := Below.refl _ _
theorem belA {a W : World} (h : Below a.heap.size a W) (o : Obj) : Below a.heap.size a (W.alloc o) := h.alloc h.size o
theorem belN {a W w1 : World} (h : Below a.heap.size a W) (hb : Below W.heap.size W w1) : Below a.heap.size a w1 := h.trans (hb.mono h.size)
theorem keep1 {W w1 : World} {B : Nat} (hb : Below B W w1) {p : Addr} {x : Value} (hx : W.cell? p = some x) (hB : W.heap.size ≤ B := by simp) : w1.cell? p = some x := by
 have := World.block_lt_of_cell? _ _ hx
 rw [hb.cell (by omega)]; exact hx
theorem str1_size (b : UInt8) : (⟨#[b]⟩ : ByteArray).size = 1 := rfl
theorem str0_size : (⟨#[]⟩ : ByteArray).size = 0 := rfl

/-- A number lies from one to another one. -/
def inI (x lo hi : Int) : Bool := decide (lo ≤ x) && decide (x ≤ hi)
theorem inI_true {x lo hi : Int} : inI x lo hi = true ↔ lo ≤ x ∧ x ≤ hi := by simp [inI]
theorem inI_false {x lo hi : Int} : inI x lo hi = false ↔ ¬ (lo ≤ x ∧ x ≤ hi) := by
 rw [← inI_true]; cases inI x lo hi <;> simp

theorem byte_ex (x : Int) (k : Nat) (hx : x = k) (hk : k < 256) : ∃ b : UInt8, x = (b.toNat : Int) ∧ Hid (b = UInt8.ofNat k) :=
 ⟨UInt8.ofNat k, by rw [toNat_ofNat k hk]; exact hx, rfl⟩

theorem and_mask (q : Int) (n k : Nat) (hn : n = 2 ^ k - 1) (hk : n < 9223372036854775808) (h0 : 0 ≤ q) (h1 : q < 9223372036854775808) : bits .and .i64 q n = q % ((2 ^ k : Nat) : Int) := by
 obtain ⟨m, rfl⟩ := Int.eq_ofNat_of_zero_le h0
 rw [i64_and_nat m n (by omega) hk, hn, Nat.and_two_pow_sub_one_eq_mod]
 rfl
theorem and_1 (q : Int) (h0 : 0 ≤ q) (h1 : q < 9223372036854775808) : bits .and .i64 q 1 = q % 2 := and_mask q 1 1 rfl (by omega) h0 h1
theorem and_127 (q : Int) (h0 : 0 ≤ q) (h1 : q < 9223372036854775808) : bits .and .i64 q 127 = q % 128 := and_mask q 127 7 rfl (by omega) h0 h1
theorem and_255 (q : Int) (h0 : 0 ≤ q) (h1 : q < 9223372036854775808) : bits .and .i64 q 255 = q % 256 := and_mask q 255 8 rfl (by omega) h0 h1
theorem or_128 (q : Int) (h0 : 0 ≤ q) (h1 : q < 128) : bits .or .i64 q 128 = q + 128 := by
 obtain ⟨m, rfl⟩ := Int.eq_ofNat_of_zero_le h0
 have h := i64_or_nat m 128 (by omega) (by omega)
 have e : m ||| 128 = m + 128 := by
  have := Nat.two_pow_add_eq_or_of_lt (i := 7) (b := m) (by omega) 1
  rw [Nat.or_comm]; simp at this; omega
 rw [e] at h
 simpa using h

/-- The text of a number in groups of seven bits. -/
def varL (n : Nat) : List UInt8 := if n < 128 then [UInt8.ofNat n] else UInt8.ofNat (n % 128 + 128) :: varL (n / 128)
termination_by n
decreasing_by omega
theorem varL_lt {n : Nat} (h : n < 128) : varL n = [UInt8.ofNat n] := by rw [varL, if_pos h]
theorem varL_ge {n : Nat} (h : 128 ≤ n) : varL n = UInt8.ofNat (n % 128 + 128) :: varL (n / 128) := by rw [varL, if_neg (by omega)]
theorem varL_len : ∀ (k n : Nat), n < 128 ^ (k + 1) → (varL n).length ≤ k + 1
 | 0, n, h => by rw [varL_lt (by simpa using h)]; simp
 | k + 1, n, h => by
  by_cases hn : n < 128
  ·rw [varL_lt hn]; simp
  ·rw [varL_ge (by omega), List.length_cons]
   have := varL_len k (n / 128) (by rw [Nat.div_lt_iff_lt_mul (by omega)]; rw [Nat.pow_succ] at h; exact h)
   omega
theorem varL_pos (n : Nat) : 1 ≤ (varL n).length := by
 rw [varL]; split <;> simp
def maxVar : Int := 562949953421311
/-- What Var gives. -/
def varB (n : Int) : ByteArray := if inI n 0 maxVar then str (varL n.toNat) else str []
theorem varL_len7 (n : Int) (h0 : 0 ≤ n) (h : n ≤ maxVar) : (varL n.toNat).length ≤ 7 := by
 unfold maxVar at h
 exact varL_len 6 _ (by have : (128 : Nat) ^ (6 + 1) = 562949953421312 := by decide
                        omega)
theorem varB_size (n : Int) : (varB n).size ≤ 7 := by
 unfold varB
 split
 ·rename_i h
  obtain ⟨h0, h1⟩ := inI_true.1 h
  rw [str_size]
  exact varL_len7 n h0 h1
 ·rw [str_size]; simp

/-- Four bytes, the great one first. -/
def be4 (n : Nat) : List UInt8 := [UInt8.ofNat (n / 16777216 % 256), UInt8.ofNat (n / 65536 % 256), UInt8.ofNat (n / 256 % 256), UInt8.ofNat (n % 256)]
def fix4 (n : Int) : ByteArray := str (be4 n.toNat)
theorem fix4_size (n : Int) : (fix4 n).size = 4 := by rw [fix4, str_size]; rfl

/-- One bit of the sum. -/
def crcBit (c : Int) : Int := if c % 2 = 1 then bits .xor .i64 (c / 2) 2197175160 else c / 2
def crcIt : Nat → Int → Int
 | 0, c => c
 | k + 1, c => crcIt k (crcBit c)
def crcByte (c : Int) (b : UInt8) : Int := crcIt 8 (bits .xor .i64 c b.toNat)
def crcL (l : List UInt8) : Int := l.foldl crcByte 4294967295
def crcB (s : ByteArray) : Int := 4294967295 - crcL s.data.toList

theorem xor_bd (a b : Int) (ha : 0 ≤ a) (ha' : a < 4294967296) (hb : 0 ≤ b) (hb' : b < 4294967296) : 0 ≤ bits .xor .i64 a b ∧ bits .xor .i64 a b < 4294967296 := by
 obtain ⟨a, rfl⟩ := Int.eq_ofNat_of_zero_le ha
 obtain ⟨b, rfl⟩ := Int.eq_ofNat_of_zero_le hb
 rw [i64_xor_nat a b (by omega) (by omega)]
 have : a ^^^ b < 2 ^ 32 := Nat.xor_lt_two_pow (by omega) (by omega)
 omega
theorem crcBit_bd (c : Int) (h0 : 0 ≤ c) (h1 : c < 4294967296) : 0 ≤ crcBit c ∧ crcBit c < 4294967296 := by
 unfold crcBit
 split
 ·exact xor_bd _ _ (by omega) (by omega) (by omega) (by omega)
 ·omega
theorem crcIt_bd : ∀ (k : Nat) (c : Int), 0 ≤ c → c < 4294967296 → 0 ≤ crcIt k c ∧ crcIt k c < 4294967296
 | 0, _, h0, h1 => ⟨h0, h1⟩
 | k + 1, c, h0, h1 => crcIt_bd k _ (crcBit_bd c h0 h1).1 (crcBit_bd c h0 h1).2
theorem crcByte_bd (c : Int) (b : UInt8) (h0 : 0 ≤ c) (h1 : c < 4294967296) : 0 ≤ crcByte c b ∧ crcByte c b < 4294967296 := by
 have := b.toNat_lt
 have h := xor_bd c b.toNat h0 h1 (by omega) (by omega)
 exact crcIt_bd _ _ h.1 h.2
theorem foldl_bd : ∀ (l : List UInt8) (c : Int), 0 ≤ c → c < 4294967296 → 0 ≤ l.foldl crcByte c ∧ l.foldl crcByte c < 4294967296
 | [], _, h0, h1 => ⟨h0, h1⟩
 | b :: l, c, h0, h1 => foldl_bd l _ (crcByte_bd c b h0 h1).1 (crcByte_bd c b h0 h1).2
theorem crcL_bd (l : List UInt8) : 0 ≤ crcL l ∧ crcL l < 4294967296 := foldl_bd l _ (by omega) (by omega)
theorem crcB_bd (s : ByteArray) : 0 ≤ crcB s ∧ crcB s < 4294967296 := by
 have := crcL_bd s.data.toList
 unfold crcB; omega
theorem take_snoc (s : ByteArray) (k : Nat) (h : k < s.size) : s.data.toList.take (k + 1) = s.data.toList.take k ++ [s[k]] := by
 rw [List.take_succ_eq_append_getElem (by simpa using h)]; rfl
theorem crcL_snoc (s : ByteArray) (k : Nat) (h : k < s.size) : crcL (s.data.toList.take (k + 1)) = crcByte (crcL (s.data.toList.take k)) s[k] := by
 rw [take_snoc s k h, crcL, List.foldl_append]; rfl
theorem crcIt_succ' : ∀ (k : Nat) (c : Int), crcIt (k + 1) c = crcBit (crcIt k c)
 | 0, _ => rfl
 | k + 1, c => crcIt_succ' k (crcBit c)
theorem take_all (s : ByteArray) (k : Nat) (h : s.size ≤ k) : s.data.toList.take k = s.data.toList := List.take_of_length_le (by rw [size_list]; exact h)

theorem Tryz.el_u8 : ElemOk Tryz.prog 22 5 (.int .u8 0) 1 1 := ⟨Tryz.underlying22, by kernel_rfl, rfl, by omega⟩

set_option maxHeartbeats 400000 in
theorem within_any (a b c : Int) (w : World) :
  Calls Tryz.prog 55 #[.int .i64 a, .int .i64 b, .int .i64 c] w fun e w' => e = .returned (.bool (inI a b c)) ∧ w = w' := by
 go_enter Tryz.func55, Tryz.ntmps55
 by_cases h1 : b ≤ a <;> by_cases h2 : a ≤ c
 all_goals
  go_wp2
  go_ret
  simp [inI, h1, h2]
set_option maxHeartbeats 400000 in
theorem l1In_any (a b c : Int) (w : World) :
  Calls Tryz.prog 43 #[.int .i64 a, .int .i64 b, .int .i64 c] w fun e w' => e = .returned (.bool (inI a b c)) ∧ w = w' := by
 go_enter Tryz.func43, Tryz.ntmps43
 by_cases h1 : b ≤ a <;> by_cases h2 : a ≤ c
 all_goals
  go_wp2
  go_ret
  simp [inI, h1, h2]

theorem ret_str {a b : ByteArray} (h : a = b) : Ending.returned (.string a) = .returned (.string b) := by rw [h]
theorem ret_int {k : IntKind} {a b : Int} (h : a = b) : Ending.returned (.int k a) = .returned (.int k b) := by rw [h]
theorem varB_no (n : Int) (h : inI n 0 maxVar = false) : varB n = str [] := by unfold varB; rw [h]; rfl
theorem varB_yes (n : Int) (h : inI n 0 maxVar = true) : varB n = str (varL n.toNat) := by unfold varB; rw [h]; rfl
theorem varL_step {n q : Int} {bs : List UInt8} (h : bs ++ varL q.toNat = varL n.toNat) (hq : 127 < q) {b : UInt8} (hb : b = UInt8.ofNat (q.toNat % 128 + 128)) : (bs ++ [b]) ++ varL (q / 128).toNat = varL n.toNat := by
 rw [← h, varL_ge (n := q.toNat) (by omega), hb, List.append_assoc, show (q / 128).toNat = q.toNat / 128 by omega]
 rfl
theorem varL_end {n q : Int} {bs : List UInt8} (h : bs ++ varL q.toNat = varL n.toNat) (hq : q ≤ 127) (h0 : 0 ≤ q) {b : UInt8} (hb : b = UInt8.ofNat q.toNat) : bs ++ [b] = varL n.toNat := by
 rw [← h, varL_lt (n := q.toNat) (by omega), hb]
theorem varL_len_of {n q : Int} {bs : List UInt8} (h : bs ++ varL q.toNat = varL n.toNat) (h7 : (varL n.toNat).length ≤ 7) : bs.length ≤ 6 := by
 have := congrArg List.length h
 have := varL_pos q.toNat
 rw [List.length_append] at *
 omega
theorem max_small {k : Nat} (h : k ≤ 1000000000) : k ≤ maxLen := by unfold maxLen; omega

set_option maxHeartbeats 400000 in
theorem var_impl (n : Int) (w : World) :
  Calls Tryz.prog 57 #[.int .i64 n] w fun e w' => e = .returned (.string (varB n)) ∧ Below w.heap.size w w' := by
 cases hin : inI n 0 maxVar
 ·have Hf := Lib.hid (varB_no n hin)
  unfold maxVar at hin
  go_enter Tryz.func57, Tryz.ntmps57
  go_wp2_with (go_at_call 55; refine (within_any _ _ _ _).mono ?_; rintro e w' ⟨rfl, rfl⟩)
  go_ret
  exact ⟨ret_str Hf.out.symm, Below.refl _ _⟩
 ·have Hf := Lib.hid (varB_yes n hin)
  obtain ⟨h0, hm⟩ := inI_true.1 hin
  have H7 := Lib.hid (varL_len7 n h0 hm)
  have Hb := Lib.hid (show n < 9223372036854775808 by unfold maxVar at hm; omega)
  clear hm
  unfold maxVar at hin
  go_enter Tryz.func57, Tryz.ntmps57
  go_wp2_with (go_at_call 55; refine (within_any _ _ _ _).mono ?_; rintro e w' ⟨rfl, rfl⟩)
  clear hin
  go_loopw [0, 3] (fun m v wr => ∃ (bs : List UInt8) (q : Int), 0 ≤ q ∧ q < 9223372036854775808 ∧ m = .int .i64 q ∧ Hid (bs ++ varL q.toNat = varL n.toNat) ∧ wr.ownsRow w.heap.size 5 1 v bs.length (B8 bs) ∧ Below w.heap.size w wr) (fun m _ _ => (intOf m).toNat)
  case atStart => exact ⟨[], n, h0, Hb.out, rfl, rfl, World.ownsRow_lit w #[] 0 (Nat.le_refl _) (by unfold maxLen; omega) rfl, (Below.refl _ _).alloc (Nat.le_refl _) _⟩
  case round =>
   obtain ⟨bs, q, h1, h2, rfl, heq, hown, hb⟩ := hrel
   have hl := varL_len_of heq.out H7.out
   have hb0 := hb.size
   by_cases hlt : 127 < q
   ·obtain ⟨b, hbv, hbb⟩ := byte_ex (bits .or .i64 (bits .and .i64 q 127) 128 % 256) (q.toNat % 128 + 128) (by rw [and_127 q h1 h2, or_128 _ (by omega) (by omega)]; omega) (by omega)
    go_wp2_with (at_builtin; go_must (refine wpList_app _ rfl _ _ _ rfl Tryz.el_u8 (hown.alloc _) rfl (reads_new _ _ _ _ 1 (by rfl)) rfl (B8_cells [b]) (max_small (by omega)) (by omega) (by simp; omega) ?_); intro v1 w1 own1 hg1 _ hb1)
    go_roundw
    case rel => exact ⟨bs ++ [b], q / 128, by omega, by omega, rfl, varL_step heq.out hlt hbb.out, by rw [B8_append, List.length_append]; exact own1, (hb.alloc (by omega) _).trans hb1⟩
    case measure => simp [intOf]; omega
   ·obtain ⟨b, rfl, hbb⟩ := byte_ex q q.toNat (by omega) (by omega)
    go_wp2_with (at_builtin; go_must (refine wpList_app _ rfl _ _ _ rfl Tryz.el_u8 (hown.alloc _) rfl (reads_new _ _ _ _ 1 (by rfl)) rfl (B8_cells [b]) (max_small (by omega)) (by omega) (by simp; omega) ?_); intro v1 w1 own1 hg1 _ hb1; have hcv := run_convert_own Tryz.underlying22 Tryz.underlying5 Tryz.underlying9 (l := bs ++ [b]) (by rw [B8_append]; exact own1))
    go_ret
    exact ⟨ret_str (by rw [Hf.out, varL_end heq.out (by omega) h1 hbb.out]), (hb.alloc (by omega) _).trans hb1⟩
set_option maxHeartbeats 400000 in
theorem var_spec (n : Int) (w : World) :
  Calls Tryz.prog 86 #[.int .i64 n] w fun e w' => e = .returned (.string (varB n)) ∧ Below w.heap.size w w' := by
 cases hin : inI n 0 maxVar
 ·have Hf := Lib.hid (varB_no n hin)
  unfold maxVar at hin
  go_enter Tryz.func86, Tryz.ntmps86
  go_wp2_with (go_at_call 43; refine (l1In_any _ _ _ _).mono ?_; rintro e w' ⟨rfl, rfl⟩)
  go_ret
  exact ⟨ret_str Hf.out.symm, Below.refl _ _⟩
 ·have Hf := Lib.hid (varB_yes n hin)
  obtain ⟨h0, hm⟩ := inI_true.1 hin
  have H7 := Lib.hid (varL_len7 n h0 hm)
  have Hb := Lib.hid (show n < 9223372036854775808 by unfold maxVar at hm; omega)
  clear hm
  unfold maxVar at hin
  go_enter Tryz.func86, Tryz.ntmps86
  go_wp2_with (go_at_call 43; refine (l1In_any _ _ _ _).mono ?_; rintro e w' ⟨rfl, rfl⟩)
  clear hin
  go_loopw [0, 3] (fun m v wr => ∃ (bs : List UInt8) (q : Int), 0 ≤ q ∧ q < 9223372036854775808 ∧ m = .int .i64 q ∧ Hid (bs ++ varL q.toNat = varL n.toNat) ∧ wr.ownsRow w.heap.size 5 1 v bs.length (B8 bs) ∧ Below w.heap.size w wr) (fun m _ _ => (intOf m).toNat)
  case atStart => exact ⟨[], n, h0, Hb.out, rfl, rfl, World.ownsRow_lit w #[] 0 (Nat.le_refl _) (by unfold maxLen; omega) rfl, (Below.refl _ _).alloc (Nat.le_refl _) _⟩
  case round =>
   obtain ⟨bs, q, h1, h2, rfl, heq, hown, hb⟩ := hrel
   have hl := varL_len_of heq.out H7.out
   have hb0 := hb.size
   by_cases hlt : 128 ≤ q
   ·obtain ⟨b, hbv, hbb⟩ := byte_ex (128 + q % 128) (q.toNat % 128 + 128) (by omega) (by omega)
    go_wp2_with (at_builtin; go_must (refine wpList_app _ rfl _ _ _ rfl Tryz.el_u8 (hown.alloc _) rfl (reads_new _ _ _ _ 1 (by rfl)) rfl (B8_cells [b]) (max_small (by omega)) (by omega) (by simp; omega) ?_); intro v1 w1 own1 hg1 _ hb1)
    go_roundw
    case rel => exact ⟨bs ++ [b], q / 128, by omega, by omega, rfl, varL_step heq.out (by omega) hbb.out, by rw [B8_append, List.length_append]; exact own1, (hb.alloc (by omega) _).trans hb1⟩
    case measure => simp [intOf]; omega
   ·obtain ⟨b, rfl, hbb⟩ := byte_ex q q.toNat (by omega) (by omega)
    go_wp2_with (at_builtin; go_must (refine wpList_app _ rfl _ _ _ rfl Tryz.el_u8 (hown.alloc _) rfl (reads_new _ _ _ _ 1 (by rfl)) rfl (B8_cells [b]) (max_small (by omega)) (by omega) (by simp; omega) ?_); intro v1 w1 own1 hg1 _ hb1; have hcv := run_convert_own Tryz.underlying22 Tryz.underlying5 Tryz.underlying9 (l := bs ++ [b]) (by rw [B8_append]; exact own1))
    go_ret
    exact ⟨ret_str (by rw [Hf.out, varL_end heq.out (by omega) h1 hbb.out]), (hb.alloc (by omega) _).trans hb1⟩
set_option maxHeartbeats 1000000 in
set_option maxRecDepth 100000 in
theorem fixed_impl (n : Int) (h0 : 0 ≤ n) (h1 : n < 4294967296) (w : World) :
  Calls Tryz.prog 98 #[.int .i64 n, .int .i64 4] w fun e w' => e = .returned (.string (fix4 n)) ∧ Below w.heap.size w w' := by
 have hmk : ∀ w, (Instr.makeSlice 22 (.int .i64 4) (.int .i64 4)).run Tryz.prog w = .ok (.slice (some ⟨w.heap.size, 0, none⟩) 4 4) (w.alloc (.cells #[.int .u8 0, .int .u8 0, .int .u8 0, .int .u8 0] 5)) := fun _ => by kernel_rfl
 have h17 : inI 4 1 7 = true := rfl
 obtain ⟨b0, hb0, e0⟩ := byte_ex (bits .and .i64 n 255 % 256) (n.toNat % 256) (by rw [and_255 _ (by omega) (by omega)]; omega) (by omega)
 obtain ⟨b1, hb1, e1⟩ := byte_ex (bits .and .i64 (n / 256) 255 % 256) (n.toNat / 256 % 256) (by rw [and_255 _ (by omega) (by omega)]; omega) (by omega)
 obtain ⟨b2, hb2, e2⟩ := byte_ex (bits .and .i64 (n / 256 / 256) 255 % 256) (n.toNat / 65536 % 256) (by rw [and_255 _ (by omega) (by omega)]; omega) (by omega)
 obtain ⟨b3, hb3, e3⟩ := byte_ex (bits .and .i64 (n / 256 / 256 / 256) 255 % 256) (n.toNat / 16777216 % 256) (by rw [and_255 _ (by omega) (by omega)]; omega) (by omega)
 have hcv := run_convert_own Tryz.underlying22 Tryz.underlying5 Tryz.underlying9 (l := [b3, b2, b1, b0]) (World.ownsRow_lit (e := 5) (size := 1) w #[.int .u8 b3.toNat, .int .u8 b2.toNat, .int .u8 b1.toNat, .int .u8 b0.toNat] 4 (Nat.le_refl _) (by unfold maxLen; omega) rfl)
 go_enter Tryz.func98, Tryz.ntmps98
 go_wp2_with (go_at_call 55; refine (within_any _ _ _ _).mono ?_; rintro e w' ⟨rfl, rfl⟩)
 refine wp_loop_rounds 5 ?_
 rw [rounds_succ]
 go_wp2
 rw [rounds_succ]
 go_wp2
 rw [rounds_succ]
 go_wp2
 rw [rounds_succ]
 go_wp2
 rw [rounds_succ]
 go_wp2
 go_ret
 exact ⟨ret_str (by rw [fix4, be4, e0.out, e1.out, e2.out, e3.out]), (Below.refl _ _).alloc (Nat.le_refl _) _⟩

theorem conv_lit (b : UInt8) (W : World) (g : Nat) (hg : g = W.heap.size) :
  (convert 22 9 (.slice (some ⟨g, 0, none⟩) 1 1)).run Tryz.prog (W.alloc (.cells #[.int .u8 b.toNat] 5)) = .ok (.string (str [b])) (W.alloc (.cells #[.int .u8 b.toNat] 5)) := by
 subst hg
 exact run_convert_own Tryz.underlying22 Tryz.underlying5 Tryz.underlying9 (l := [b]) (World.ownsRow_lit (e := 5) (size := 1) W #[.int .u8 b.toNat] 1 (Nat.le_refl _) (by unfold maxLen; omega) rfl)

set_option maxHeartbeats 1000000 in
set_option maxRecDepth 100000 in
theorem fixed_spec (n : Int) (h0 : 0 ≤ n) (h1 : n < 4294967296) (w : World) :
  Calls Tryz.prog 87 #[.int .i64 n, .int .i64 4] w fun e w' => e = .returned (.string (fix4 n)) ∧ Below w.heap.size w w' := by
 have h17 : inI 4 1 7 = true := rfl
 obtain ⟨b0, hb0, e0⟩ := byte_ex (n % 256) (n.toNat % 256) (by omega) (by omega)
 obtain ⟨b1, hb1, e1⟩ := byte_ex (n / 256 % 256) (n.toNat / 256 % 256) (by omega) (by omega)
 obtain ⟨b2, hb2, e2⟩ := byte_ex (n / 256 / 256 % 256) (n.toNat / 65536 % 256) (by omega) (by omega)
 obtain ⟨b3, hb3, e3⟩ := byte_ex (n / 256 / 256 / 256 % 256) (n.toNat / 16777216 % 256) (by omega) (by omega)
 have c0 := conv_lit b0
 have c1 := conv_lit b1
 have c2 := conv_lit b2
 have c3 := conv_lit b3
 have z0 : (str [b0]).size = 1 := rfl
 have z1 : (str [b1]).size = 1 := rfl
 have z2 : (str [b2]).size = 1 := rfl
 have z3 : (str [b3]).size = 1 := rfl
 have hz : ¬ 0 < n / 256 / 256 / 256 / 256 := by omega
 go_enter Tryz.func87, Tryz.ntmps87
 go_wp2_with (go_at_call 43; refine (l1In_any _ _ _ _).mono ?_; rintro e w' ⟨rfl, rfl⟩)
 refine wp_loop_rounds 5 ?_
 rw [rounds_succ]
 go_wp2
 rw [rounds_succ]
 go_wp2
 rw [rounds_succ]
 go_wp2
 rw [rounds_succ]
 go_wp2
 rw [rounds_succ]
 go_wp2
 go_ret
 refine ⟨ret_str (bytes_ext ?_), ((((Below.refl _ _).alloc (Nat.le_refl _) _).alloc (by simp) _).alloc (by simp; omega) _).alloc (by simp; omega) _⟩
 simp only [append_list, str_list]
 rw [fix4, be4, e0.out, e1.out, e2.out, e3.out]
 rfl

set_option maxHeartbeats 1000000 in
theorem crc_impl (s : ByteArray) (hs : s.size ≤ 1000000000) (w : World) :
  Calls Tryz.prog 95 #[.string s] w fun e w' => e = .returned (.int .i64 (crcB s)) ∧ w = w' := by
 go_enter Tryz.func95, Tryz.ntmps95
 go_wp2
 go_loop [3, 4] (fun c i => ∃ (k : Nat) (d : Int), k ≤ s.size ∧ 0 ≤ d ∧ d < 4294967296 ∧ i = .int .i64 k ∧ c = .int .i64 d ∧ Hid (d = crcL (s.data.toList.take k))) (fun _ i => s.size - (intOf i).toNat)
 case atStart => exact ⟨0, 4294967295, Nat.zero_le _, by omega, by omega, rfl, rfl, rfl⟩
 case round =>
  obtain ⟨k, d, hk, hd0, hd1, rfl, rfl, hd⟩ := hrel
  by_cases hlt : k < s.size
  ·have hb := (s[k]'hlt).toNat_lt
   have hbd := xor_bd d s[k].toNat hd0 hd1 (by omega) (by omega)
   have H2 := Lib.hid (crcL_snoc s k hlt)
   go_wp2
   clear hd0 hd1
   obtain ⟨x0, hx0⟩ : ∃ x0, bits .xor .i64 d (s[k].toNat : Int) = x0 := ⟨_, rfl⟩
   rw [hx0] at hbd ⊢
   have Hx := Lib.hid hx0
   clear hx0
   go_loop [3, 18] (fun c j => ∃ (t : Nat) (d : Int), t ≤ 8 ∧ 0 ≤ d ∧ d < 4294967296 ∧ j = .int .i64 t ∧ c = .int .i64 d ∧ Hid (d = crcIt t x0)) (fun _ j => 8 - (intOf j).toNat)
   case atStart => exact ⟨0, _, by omega, hbd.1, hbd.2, rfl, rfl, rfl⟩
   case round =>
    obtain ⟨t, d', ht, hd0, hd1, rfl, rfl, hd'⟩ := hrel
    clear hbd
    have a1 := and_1 d' hd0 (by omega)
    by_cases ht8 : t < 8
    ·have H3 := Lib.hid (crcIt_succ' t x0)
     have H4 := Lib.hid (crcBit_bd d' hd0 hd1)
     rcases (show d' % 2 = 0 ∨ d' % 2 = 1 by omega) with h2 | h2
     ·have tst : (bits BinOp.and IntKind.i64 d' 1 == 1) = false := by rw [a1, h2]; rfl
      have H5 := Lib.hid (show crcBit d' = d' / 2 by unfold crcBit; rw [if_neg (by omega)])
      clear a1 h2
      go_wp2
      go_round
      case rel => exact ⟨t + 1, d' / 2, by omega, by omega, by omega, by go_num, rfl, by show _ = _; rw [H3.out, ← hd'.out, H5.out]⟩
      case measure => simp [intOf]; omega
     ·have tst : (bits BinOp.and IntKind.i64 d' 1 == 1) = true := by rw [a1, h2]; rfl
      have H5 := Lib.hid (show crcBit d' = bits .xor .i64 (d' / 2) 2197175160 by unfold crcBit; rw [if_pos h2])
      clear a1 h2
      go_wp2
      go_round
      case rel => exact ⟨t + 1, _, by omega, by rw [← H5.out]; exact H4.out.1, by rw [← H5.out]; exact H4.out.2, by go_num, rfl, by show _ = _; rw [H3.out, ← hd'.out, H5.out]⟩
      case measure => simp [intOf]; omega
    ·obtain rfl : t = 8 := by omega
     clear a1
     go_wp2
     go_round
     case rel => exact ⟨k + 1, d', by omega, hd0, hd1, by go_num, rfl, by show _ = _; rw [H2.out, ← hd.out, hd'.out, crcByte, Hx.out]⟩
     case measure => simp [intOf]; omega
  ·go_wp2
   go_ret
   exact ⟨ret_int (by rw [hd.out, take_all s k (by omega)]; rfl), rfl⟩
set_option maxHeartbeats 1000000 in
theorem crc_spec (s : ByteArray) (hs : s.size ≤ 1000000000) (w : World) :
  Calls Tryz.prog 88 #[.string s] w fun e w' => e = .returned (.int .i64 (crcB s)) ∧ w = w' := by
 go_enter Tryz.func88, Tryz.ntmps88
 go_wp2
 go_loop [3, 4] (fun c i => ∃ (k : Nat) (d : Int), k ≤ s.size ∧ 0 ≤ d ∧ d < 4294967296 ∧ i = .int .i64 k ∧ c = .int .i64 d ∧ Hid (d = crcL (s.data.toList.take k))) (fun _ i => s.size - (intOf i).toNat)
 case atStart => exact ⟨0, 4294967295, Nat.zero_le _, by omega, by omega, rfl, rfl, rfl⟩
 case round =>
  obtain ⟨k, d, hk, hd0, hd1, rfl, rfl, hd⟩ := hrel
  by_cases hlt : k < s.size
  ·have hb := (s[k]'hlt).toNat_lt
   have hbd := xor_bd d s[k].toNat hd0 hd1 (by omega) (by omega)
   have H2 := Lib.hid (crcL_snoc s k hlt)
   go_wp2
   clear hd0 hd1
   obtain ⟨x0, hx0⟩ : ∃ x0, bits .xor .i64 d (s[k].toNat : Int) = x0 := ⟨_, rfl⟩
   rw [hx0] at hbd ⊢
   have Hx := Lib.hid hx0
   clear hx0
   go_loop [3, 5] (fun c j => ∃ (t : Nat) (d : Int), t ≤ 8 ∧ 0 ≤ d ∧ d < 4294967296 ∧ j = .int .i64 t ∧ c = .int .i64 d ∧ Hid (d = crcIt t x0)) (fun _ j => 8 - (intOf j).toNat)
   case atStart => exact ⟨0, _, by omega, hbd.1, hbd.2, rfl, rfl, rfl⟩
   case round =>
    obtain ⟨t, d', ht, hd0, hd1, rfl, rfl, hd'⟩ := hrel
    clear hbd
    by_cases ht8 : t < 8
    ·have H3 := Lib.hid (crcIt_succ' t x0)
     have H4 := Lib.hid (crcBit_bd d' hd0 hd1)
     rcases (show d' % 2 = 0 ∨ d' % 2 = 1 by omega) with h2 | h2
     ·have tst : (d' % 2 == 1) = false := by rw [h2]; rfl
      have H5 := Lib.hid (show crcBit d' = d' / 2 by unfold crcBit; rw [if_neg (by omega)])
      clear h2
      go_wp2
      go_round
      case rel => exact ⟨t + 1, d' / 2, by omega, by omega, by omega, by go_num, rfl, by show _ = _; rw [H3.out, ← hd'.out, H5.out]⟩
      case measure => simp [intOf]; omega
     ·have tst : (d' % 2 == 1) = true := by rw [h2]; rfl
      have H5 := Lib.hid (show crcBit d' = bits .xor .i64 (d' / 2) 2197175160 by unfold crcBit; rw [if_pos h2])
      clear h2
      go_wp2
      go_round
      case rel => exact ⟨t + 1, _, by omega, by rw [← H5.out]; exact H4.out.1, by rw [← H5.out]; exact H4.out.2, by go_num, rfl, by show _ = _; rw [H3.out, ← hd'.out, H5.out]⟩
      case measure => simp [intOf]; omega
    ·obtain rfl : t = 8 := by omega
     go_wp2
     go_round
     case rel => exact ⟨k + 1, d', by omega, hd0, hd1, by go_num, rfl, by show _ = _; rw [H2.out, ← hd.out, hd'.out, crcByte, Hx.out]⟩
     case measure => simp [intOf]; omega
  ·go_wp2
   go_ret
   exact ⟨ret_int (by rw [hd.out, take_all s k (by omega)]; rfl), rfl⟩

theorem seq_true {a b : ByteArray} (h : a = b) : (a.toList == b.toList) = true := by rw [h]; simp
theorem seq_false {a b : ByteArray} (h : a ≠ b) : (a.toList == b.toList) = false := by
 rw [ByteArray.toList_eq, ByteArray.toList_eq, beq_eq_false_iff_ne]
 exact fun e => h (bytes_ext e)
theorem sub_list (s : ByteArray) (i j : Nat) : (s.extract i j).data.toList = (s.data.toList.take j).drop i := by
 rw [ByteArray.data_extract, Array.toList_extract, List.extract_eq_take_drop, List.drop_take]

theorem and8_127 (b : UInt8) : bits .and .u8 (b.toNat : Int) 127 = (b.toNat : Int) % 128 := by
 have h : ∀ n : Nat, n < 256 → bits .and .u8 (n : Int) 127 = (n : Int) % 128 := by decide +kernel
 exact h _ b.toNat_lt

/-- The value of groups of seven bits, the small one first. -/
def valL : List UInt8 → Nat
 | [] => 0
 | b :: l => b.toNat % 128 + 128 * valL l
theorem valL_snoc : ∀ (l : List UInt8) (b : UInt8), valL (l ++ [b]) = valL l + 2 ^ (7 * l.length) * (b.toNat % 128)
 | [], b => by simp [valL]
 | a :: l, b => by
  rw [List.cons_append, valL, valL_snoc l b, valL, List.length_cons, Nat.mul_succ, Nat.pow_add]
  generalize 2 ^ (7 * l.length) = p
  generalize valL l = v
  generalize b.toNat % 128 = c
  rw [show (2 : Nat) ^ 7 = 128 from rfl, Nat.mul_add, Nat.mul_comm p 128, Nat.mul_assoc]
  omega
theorem valL_lt : ∀ (l : List UInt8), valL l < 2 ^ (7 * l.length)
 | [] => by simp [valL]
 | a :: l => by
  have := valL_lt l
  rw [valL, List.length_cons, Nat.mul_succ, Nat.pow_add, show (2 : Nat) ^ 7 = 128 from rfl]
  generalize 2 ^ (7 * l.length) = p at *
  omega
theorem valL_lt7 (l : List UInt8) (h : l.length ≤ 7) : valL l < 562949953421312 := by
 have h1 := valL_lt l
 have h2 : (2 : Nat) ^ (7 * l.length) ≤ 2 ^ 49 := Nat.pow_le_pow_right (by omega) (by omega)
 have h3 : (2 : Nat) ^ 49 = 562949953421312 := by decide
 omega
theorem or_val (l : List UInt8) (b : UInt8) (h : l.length < 7) : bits .or .i64 (valL l : Int) (wrap64 ((b.toNat : Int) % 128 * 2 ^ (7 * l.length))) = (valL (l ++ [b]) : Int) := by
 have hv := valL_lt l
 have h6 : 7 * l.length ≤ 42 := by omega
 have hp : (2 : Nat) ^ (7 * l.length) ≤ 2 ^ 42 := Nat.pow_le_pow_right (by omega) h6
 have h42 : (2 : Nat) ^ 42 = 4398046511104 := by decide
 have hc : ((b.toNat : Int) % 128 * 2 ^ (7 * l.length)) = ((2 ^ (7 * l.length) * (b.toNat % 128) : Nat) : Int) := by
  rw [Int.natCast_mul, Int.mul_comm]; simp
 have hle : 2 ^ (7 * l.length) * (b.toNat % 128) ≤ 4398046511104 * 127 := Nat.mul_le_mul (by omega) (by omega)
 rw [hc, IntWalk.wrap64_in _ (by omega), i64_or_nat _ _ (by omega) (by omega), valL_snoc]
 congr 1
 rw [Nat.or_comm, ← Nat.two_pow_add_eq_or_of_lt hv, Nat.add_comm]

theorem varL_shape : ∀ (k n : Nat), n < 128 ^ (k + 1) → ∃ (l : List UInt8) (b : UInt8), varL n = l ++ [b] ∧ b.toNat < 128 ∧ (∀ x ∈ l, 128 ≤ x.toNat)
 | 0, n, h => ⟨[], UInt8.ofNat n, by rw [varL_lt (by simpa using h)]; rfl, by rw [toNat_ofNat _ (by simp at h; omega)]; simpa using h, by simp⟩
 | k + 1, n, h => by
  by_cases hn : n < 128
  ·exact ⟨[], UInt8.ofNat n, by rw [varL_lt hn]; rfl, by rw [toNat_ofNat _ (by omega)]; exact hn, by simp⟩
  ·obtain ⟨l, b, h1, h2, h3⟩ := varL_shape k (n / 128) (by rw [Nat.div_lt_iff_lt_mul (by omega)]; rw [Nat.pow_succ] at h; exact h)
   refine ⟨UInt8.ofNat (n % 128 + 128) :: l, b, by rw [varL_ge (by omega), h1]; rfl, h2, ?_⟩
   intro x hx
   rcases List.mem_cons.1 hx with rfl | hx
   ·rw [toNat_ofNat _ (by omega)]; omega
   ·exact h3 x hx

/-- A number at a text's beginning, and how many bytes it has; 0 and 0 where there is none. -/
def rv (l : List UInt8) : Nat × Nat :=
 match (l.take 7).findIdx? (fun b => decide (b.toNat < 128)) with
 | none => (0, 0)
 | some k => if varL (valL (l.take (k + 1))) = l.take (k + 1) then (valL (l.take (k + 1)), k + 1) else (0, 0)
theorem rv_low {l : List UInt8} {k : Nat} (h7 : k < 7) (hk : k < l.length) (hb : (l[k]).toNat < 128) (ha : ∀ j (hj : j < k), 128 ≤ (l[j]'(by omega)).toNat) :
  rv l = if varL (valL (l.take (k + 1))) = l.take (k + 1) then (valL (l.take (k + 1)), k + 1) else (0, 0) := by
 have : (l.take 7).findIdx? (fun b => decide (b.toNat < 128)) = some k := by
  rw [List.findIdx?_eq_some_iff_getElem]
  refine ⟨by rw [List.length_take]; omega, by simp [hb], fun j hj => ?_⟩
  have := ha j hj
  simp; omega
 rw [rv, this]
theorem rv_none {l : List UInt8} (ha : ∀ j (hj : j < l.length), j < 7 → 128 ≤ (l[j]).toNat) : rv l = (0, 0) := by
 have : (l.take 7).findIdx? (fun b => decide (b.toNat < 128)) = none := by
  rw [List.findIdx?_eq_none_iff]
  intro x hx
  obtain ⟨j, hj, rfl⟩ := List.getElem_of_mem hx
  rw [List.length_take] at hj
  have := ha j (by omega) (by omega)
  simp; omega
 rw [rv, this]
theorem rv_cases (l : List UInt8) : rv l = (0, 0) ∨ ∃ k, k < 7 ∧ k < l.length ∧ rv l = (valL (l.take (k + 1)), k + 1) ∧ varL (valL (l.take (k + 1))) = l.take (k + 1) := by
 unfold rv
 cases h : (l.take 7).findIdx? (fun b => decide (b.toNat < 128)) with
 | none => exact .inl rfl
 | some k =>
  obtain ⟨hk, _⟩ := List.findIdx?_eq_some_iff_getElem.1 h
  rw [List.length_take] at hk
  by_cases hv : varL (valL (l.take (k + 1))) = l.take (k + 1)
  ·exact .inr ⟨k, by omega, by omega, by simp [hv], hv⟩
  ·left; simp [hv]
theorem rv_le (l : List UInt8) : (rv l).2 ≤ 7 ∧ (rv l).2 ≤ l.length ∧ (rv l).1 < 562949953421312 := by
 rcases rv_cases l with h | ⟨k, h1, h2, h, _⟩ <;> rw [h]
 ·simp
 ·exact ⟨h1, h2, valL_lt7 _ (by rw [List.length_take]; omega)⟩
theorem rv_hit {l : List UInt8} {k : Nat} (h7 : k + 1 ≤ 7) (hk : k + 1 ≤ l.length) (h : varL (valL (l.take (k + 1))) = l.take (k + 1)) : rv l = (valL (l.take (k + 1)), k + 1) := by
 obtain ⟨m, b, h1, h2, h3⟩ := varL_shape 6 (valL (l.take (k + 1))) (valL_lt7 _ (by rw [List.length_take]; omega))
 rw [h] at h1
 have hl : m.length = k := by have := congrArg List.length h1; simp at this; omega
 have hat : ∀ j (hj : j < k + 1), l[j]'(by omega) = (m ++ [b])[j]'(by simp; omega) := by
  intro j hj
  have : (l.take (k + 1))[j]? = (m ++ [b])[j]? := by rw [h1]
  rw [List.getElem?_take, if_pos hj, List.getElem?_eq_getElem (by omega), List.getElem?_eq_getElem (by simp; omega)] at this
  exact Option.some.inj this
 have hb : (l[k]'(by omega)).toNat < 128 := by
  rw [hat k (by omega), List.getElem_append_right (by omega)]; simpa using h2
 have ha : ∀ j (hj : j < k), 128 ≤ (l[j]'(by omega)).toNat := by
  intro j hj
  rw [hat j (by omega), List.getElem_append_left (by omega)]
  exact h3 _ (List.getElem_mem _)
 rw [rv_low (by omega) (by omega) hb ha, if_pos h]
theorem rv_miss {l : List UInt8} (h : ∀ k, k + 1 ≤ 7 → k + 1 ≤ l.length → varL (valL (l.take (k + 1))) ≠ l.take (k + 1)) : rv l = (0, 0) := by
 rcases rv_cases l with h' | ⟨k, h1, h2, _, h4⟩
 ·exact h'
 ·exact absurd h4 (h k (by omega) (by omega))
theorem varB_val (l : List UInt8) (h : l.length ≤ 7) : varB (valL l : Int) = str (varL (valL l)) := by
 have := valL_lt7 l h
 unfold varB
 rw [if_pos (inI_true.2 ⟨by omega, by unfold maxVar; omega⟩)]
 rfl
theorem drop_take_cons (l : List UInt8) (i k : Nat) (hi : i < k) (hk : k ≤ l.length) : (l.take k).drop i = l[i]'(by omega) :: (l.take k).drop (i + 1) := by
 rw [List.drop_eq_getElem_cons (by rw [List.length_take]; omega), List.getElem_take]

/-- What stands at a text's beginning. -/
def rvB (s : ByteArray) : Nat × Nat := rv s.data.toList
theorem rvB_le (s : ByteArray) : (rvB s).2 ≤ 7 ∧ (rvB s).2 ≤ s.size ∧ (rvB s).1 < 562949953421312 := by
 have := rv_le s.data.toList
 rwa [size_list] at this
theorem ret_two {a b c d : Int} (h : a = c) (h' : b = d) : Ending.returned (.tuple #[.int .i64 a, .int .i64 b]) = .returned (.tuple #[.int .i64 c, .int .i64 d]) := by rw [h, h']
theorem len_take (s : ByteArray) (k : Nat) (h : k ≤ s.size) : (s.data.toList.take k).length = k := by rw [List.length_take, size_list]; omega
theorem rv_impl_low (s : ByteArray) (k : Nat) (h7 : k < 7) (hk : k < s.size) (hb : s[k].toNat < 128) (ha : ∀ j (hj : j < k), 128 ≤ (s[j]'(by omega)).toNat) :
  rvB s = if varL (valL (s.data.toList.take (k + 1))) = s.data.toList.take (k + 1) then (valL (s.data.toList.take (k + 1)), k + 1) else (0, 0) :=
 rv_low h7 (by rw [size_list]; exact hk) hb ha
theorem varB_take (s : ByteArray) (k : Nat) (h7 : k < 7) (hk : k < s.size) : varB (valL (s.data.toList.take (k + 1)) : Int) = s.extract 0 (k + 1) ↔ varL (valL (s.data.toList.take (k + 1))) = s.data.toList.take (k + 1) := by
 rw [varB_val _ (by rw [len_take s _ (by omega)]; omega)]
 constructor
 ·intro h
  have := congrArg (fun x : ByteArray => x.data.toList) h
  simpa [sub_list, str_list] using this
 ·intro h
  exact bytes_ext (by rw [sub_list, str_list, h]; rfl)

set_option maxRecDepth 100000 in
set_option maxHeartbeats 1000000 in
theorem readVar_impl (s : ByteArray) (hs : s.size ≤ 1000000000) (w : World) :
  Calls Tryz.prog 103 #[.string s] w fun e w' => e = .returned (.tuple #[.int .i64 (rvB s).1, .int .i64 (rvB s).2]) ∧ Below w.heap.size w w' := by
 go_enter Tryz.func103, Tryz.ntmps103
 go_wp2
 go_loop [4, 5] (fun n i => ∃ (k : Nat), k ≤ s.size ∧ k ≤ 7 ∧ i = .int .i64 k ∧ n = .int .i64 (valL (s.data.toList.take k)) ∧ Hid (∀ j (hj : j < k) (h : j < s.size), 128 ≤ (s[j]).toNat)) (fun _ i => s.size - (intOf i).toNat)
 case atStart => exact ⟨0, by omega, by omega, rfl, rfl, fun j hj => by omega⟩
 case round =>
  obtain ⟨k, hk, hk7, rfl, rfl, ha⟩ := hrel
  by_cases hin : k < s.size ∧ k < 7
  ·obtain ⟨hlt, h7⟩ := hin
   have hx := and8_127 (s[k]'hlt)
   have hb := (s[k]'hlt).toNat_lt
   have hor := or_val (s.data.toList.take k) (s[k]'hlt) (by rw [len_take s k hk]; exact h7)
   rw [len_take s k hk, ← take_snoc s k hlt] at hor
   have hv := Lib.hid (varB_take s k h7 hlt)
   obtain ⟨d', hd'⟩ : ∃ d' : Int, (valL (s.data.toList.take (k + 1)) : Int) = d' := ⟨_, rfl⟩
   obtain ⟨d, hd⟩ : ∃ d : Int, (valL (s.data.toList.take k) : Int) = d := ⟨_, rfl⟩
   rw [hd, hd'] at hor
   rw [hd]
   have Hd' := Lib.hid hd'; clear hd'
   have Hd := Lib.hid hd; clear hd
   by_cases hlow : (s[k].toNat : Int) < 128
   ·have hr := Lib.hid (rv_impl_low s k h7 hlt (by omega) (fun j hj => ha.out j hj (by omega)))
    have q0 : (0 : Int) ≤ ↑k + 1 := by omega
    have q1 : (↑k : Int) + 1 ≤ ↑s.size := by omega
    have q2 : IntKind.i64.wrap ((k : Int) + 1) = (k : Int) + 1 := IntWalk.i64_in _ (by omega)
    have q3 : ((k : Int) + 1).toNat = k + 1 := by omega
    by_cases heq : varB d' = s.extract 0 (k + 1)
    ·have hq := seq_true heq
     have Hq := Lib.hid heq
     clear heq
     go_wp2_with fail
     go_region_held3 (fun _ => True) (trivial)
      (first
       | (go_at_call 57; refine (var_impl _ _).mono ?_; rintro e w1 ⟨rfl, hb1⟩))
     go_wp2
     go_ret2
     have e := hv.out.1 (by rw [Hd'.out]; exact Hq.out)
     exact ⟨ret_two (by rw [hr.out, if_pos e]; exact Hd'.out.symm) (by rw [hr.out, if_pos e]; rfl), belN (bel0 w).drew hb1⟩
    ·have hq := seq_false heq
     have Hq := Lib.hid heq
     clear heq
     go_wp2_with fail
     go_region_held3 (fun _ => True) (trivial)
      (first
       | (go_at_call 57; refine (var_impl _ _).mono ?_; rintro e w1 ⟨rfl, hb1⟩))
     go_wp2
     go_ret2
     have e : ¬ _ := fun e => Hq.out (by rw [← Hd'.out]; exact hv.out.2 e)
     exact ⟨ret_two (by rw [hr.out, if_neg e]; rfl) (by rw [hr.out, if_neg e]; rfl), belN (bel0 w).drew hb1⟩
   ·go_wp2_with fail
    go_round
    case rel => exact ⟨k + 1, by omega, by omega, by go_num, by rw [Hd'.out], fun j hj h => by
     rcases Nat.lt_or_ge j k with h1 | h1
     ·exact ha.out j h1 h
     ·obtain rfl : j = k := by omega
      omega⟩
    case measure => simp [intOf]; omega
  ·have hr := Lib.hid (show rvB s = _ from rv_none (l := s.data.toList) (fun j hj h7 => ha.out j (by rw [size_list] at hj; omega) (by rw [size_list] at hj; exact hj)))
   by_cases hlt : k < s.size
   ·have h7 : ¬ (k : Int) < 7 := by omega
    clear hin
    go_wp2
    go_ret2
    exact ⟨ret_two (by rw [hr.out]; rfl) (by rw [hr.out]; rfl), bel0 _⟩
   ·clear hin
    go_wp2
    go_ret2
    exact ⟨ret_two (by rw [hr.out]; rfl) (by rw [hr.out]; rfl), bel0 _⟩

theorem rv_spec_hit (s : ByteArray) (k : Nat) (h7 : k < 7) (hk : k < s.size) (h : varL (valL (s.data.toList.take (k + 1))) = s.data.toList.take (k + 1)) :
  rvB s = (valL (s.data.toList.take (k + 1)), k + 1) := rv_hit h7 (by rw [size_list]; exact hk) h
theorem drop_cons (s : ByteArray) (i k : Nat) (hi : i < k) (hk : k ≤ s.size) : (s.data.toList.take k).drop i = s[i] :: (s.data.toList.take k).drop (i + 1) :=
 drop_take_cons _ i k hi (by rw [size_list]; exact hk)
theorem drop_all (s : ByteArray) (k : Nat) (hk : k ≤ s.size) : (s.data.toList.take k).drop k = [] := List.drop_eq_nil_of_le (by rw [len_take s k hk]; omega)

set_option maxRecDepth 100000 in
set_option maxHeartbeats 2000000 in
theorem readVar_spec (s : ByteArray) (hs : s.size ≤ 1000000000) (w : World) :
  Calls Tryz.prog 115 #[.string s] w fun e w' => e = .returned (.tuple #[.int .i64 (rvB s).1, .int .i64 (rvB s).2]) ∧ Below w.heap.size w w' := by
 go_enter Tryz.func115, Tryz.ntmps115
 go_wp2
 go_loopw [4] (fun i wr => ∃ (k : Nat), k ≤ s.size ∧ k ≤ 7 ∧ i = .int .i64 (k + 1) ∧ Hid (∀ j, j < k → varL (valL (s.data.toList.take (j + 1))) ≠ s.data.toList.take (j + 1)) ∧ Below w.heap.size w wr) (fun i _ => s.size + 1 - (intOf i).toNat)
 case atStart => exact ⟨0, by omega, by omega, rfl, fun j hj => by omega, bel0 _⟩
 case round =>
  obtain ⟨k, hk, hk7, rfl, ha, hbel⟩ := hrel
  by_cases hin : k < s.size ∧ k < 7
  ·obtain ⟨hlt, h7⟩ := hin
   have p1 : (k : Int) + 1 ≤ 7 := by omega
   have p2 : (k : Int) + 1 ≤ ↑s.size := by omega
   go_wp2_with fail
   obtain ⟨wo, hwo⟩ : ∃ wo : World, wo = wr := ⟨_, rfl⟩
   subst hwo
   go_loop [5, 6] (fun n i => ∃ (t : Nat) (d : Int), t ≤ k + 1 ∧ i = .int .i64 ((t : Int) - 1) ∧ n = .int .i64 d ∧ 0 ≤ d ∧ d < 562949953421312 ∧ Hid (d = (valL ((s.data.toList.take (k + 1)).drop t) : Int))) (fun _ i => (intOf i + 1).toNat)
   case atStart => exact ⟨k + 1, 0, by omega, by go_num, rfl, by omega, by omega, by rw [drop_all s _ (by omega)]; rfl⟩
   case round =>
    obtain ⟨t, d, ht, rfl, rfl, hd0, hd1, hd⟩ := hrel
    rcases t with _ | t
    ·have hdk : d = (valL (s.data.toList.take (k + 1)) : Int) := hd.out
     have hv := Lib.hid (varB_take s k h7 hlt)
     have q0 : (0 : Int) ≤ ↑k + 1 := by omega
     have q1 : (↑k : Int) + 1 ≤ ↑s.size := by omega
     have q2 : IntKind.i64.wrap ((k : Int) + 1) = (k : Int) + 1 := IntWalk.i64_in _ (by omega)
     have q3 : ((k : Int) + 1).toNat = k + 1 := by omega
     have Hdk := Lib.hid hdk
     clear hdk hd
     by_cases heq : varB d = s.extract 0 (k + 1)
     ·have hq := seq_true heq
      have Hq := Lib.hid heq
      clear heq
      have e := Lib.hid (hv.out.1 (by rw [← Hdk.out]; exact Hq.out))
      have hr := Lib.hid (rv_spec_hit s k h7 hlt e.out)
      go_wp2_with fail
      go_region_held3 (fun _ => True) (trivial)
       (first
        | (go_at_call 86; refine (var_spec _ _).mono ?_; rintro e w1 ⟨rfl, hb1⟩))
      go_wp2
      go_ret2
      exact ⟨ret_two (by rw [hr.out]; exact Hdk.out) (by rw [hr.out]; rfl), belN hbel.drew hb1⟩
     ·have hq := seq_false heq
      have Hq := Lib.hid heq
      clear heq
      go_wp2_with fail
      go_region_held3 (fun _ => True) (trivial)
       (first
        | (go_at_call 86; refine (var_spec _ _).mono ?_; rintro e w1 ⟨rfl, hb1⟩))
      go_wp2
      go_roundw
      case rel => exact ⟨k + 1, by omega, by omega, by go_num, fun j hj => by
       rcases Nat.lt_or_ge j k with h1 | h1
       ·exact ha.out j h1
       ·obtain rfl : j = k := by omega
        exact fun e => Hq.out (by rw [Hdk.out]; exact hv.out.2 e), belN hbel.drew hb1⟩
      case measure => simp [intOf]; omega
    ·have hb := (s[t]'(by omega)).toNat_lt
     have hdc := Lib.hid (drop_cons s t (k + 1) (by omega) (by omega))
     have hlen := Lib.hid (valL_lt7 ((s.data.toList.take (k + 1)).drop t) (by rw [List.length_drop, len_take s _ (by omega)]; omega))
     go_wp2_with fail
     go_round
     case rel =>
      have e : d * 128 + (s[t].toNat : Int) % 128 = (valL ((s.data.toList.take (k + 1)).drop t) : Int) := by rw [hdc.out, valL, hd.out]; omega
      have := hlen.out
      exact ⟨t, _, by omega, rfl, rfl, by omega, by omega, e⟩
     case measure => simp [intOf]
  ·have hr := Lib.hid (show rvB s = _ from rv_miss (l := s.data.toList) (fun j h7 hj => ha.out j (by rw [size_list] at hj; omega)))
   by_cases h7 : k < 7
   ·have hlt : ¬ (k : Int) + 1 ≤ ↑s.size := by omega
    clear hin
    go_wp2
    go_ret2
    exact ⟨ret_two (by rw [hr.out]; rfl) (by rw [hr.out]; rfl), hbel⟩
   ·clear hin
    go_wp2
    go_ret2
    exact ⟨ret_two (by rw [hr.out]; rfl) (by rw [hr.out]; rfl), hbel⟩

def dropB (s : ByteArray) (k : Nat) : ByteArray := s.extract k s.size
def takeB (s : ByteArray) (k : Nat) : ByteArray := s.extract 0 k
theorem dropB_list (s : ByteArray) (k : Nat) : (dropB s k).data.toList = s.data.toList.drop k := by
 rw [dropB, sub_list, take_all s _ (Nat.le_refl _)]
theorem takeB_list (s : ByteArray) (k : Nat) : (takeB s k).data.toList = s.data.toList.take k := by rw [takeB, sub_list]; rfl
theorem dropB_size (s : ByteArray) (k : Nat) : (dropB s k).size = s.size - k := by rw [← size_list, dropB_list, List.length_drop, size_list]
theorem takeB_le (s : ByteArray) (k : Nat) : (takeB s k).size ≤ s.size := by rw [← size_list, takeB_list, List.length_take, size_list]; omega
theorem Blk.c0 {w : World} {g : Nat} {t : TypeId} {a b : Value} (h : Blk w g t #[a, b]) : w.cell? ⟨g, 0, none⟩ = some a := h.cell 0
theorem Blk.c1 {w : World} {g : Nat} {t : TypeId} {a b : Value} (h : Blk w g t #[a, b]) : w.cell? ⟨g, 1, none⟩ = some b := h.cell 1
theorem Blk.s0 {w : World} {g : Nat} {t : TypeId} {a b : Value} (h : Blk w g t #[a, b]) (u : Value) : Blk (w.setCell ⟨g, 0, none⟩ u) g t #[u, b] := h.set_ 0 u
theorem Blk.s1 {w : World} {g : Nat} {t : TypeId} {a b : Value} (h : Blk w g t #[a, b]) (u : Value) : Blk (w.setCell ⟨g, 1, none⟩ u) g t #[a, u] := h.set_ 1 u
theorem grown_refl (w : World) (row : Option Nat) : w.grownBy w row := World.grownBy.refl w row

/-- Reading a number off (rest, bad). -/
def scN (R : ByteArray) (b : Bool) : Int × ByteArray × Bool :=
 if b = true ∨ (rvB R).2 = 0 then (0, R, true) else ((rvB R).1, dropB R (rvB R).2, false)
/-- Cutting so many bytes off (rest, bad). -/
def scC (R : ByteArray) (b : Bool) (n : Int) : ByteArray × ByteArray × Bool :=
 if b = true ∨ inI n 0 R.size = false then (str [], R, true) else (takeB R n.toNat, dropB R n.toNat, false)

set_option maxRecDepth 100000 in
set_option maxHeartbeats 1000000 in
theorem num_any (g : Nat) (R : ByteArray) (b : Bool) (hR : R.size ≤ 1000000000) (w : World) (hb : Blk w g 91 #[.string R, .bool b]) :
  Calls Tryz.prog 69 #[.pointer (some ⟨g, 0, none⟩)] w fun e w' =>
   e = .returned (.int .i64 (scN R b).1) ∧ Blk w' g 91 #[.string (scN R b).2.1, .bool (scN R b).2.2] ∧ w.grownBy w' (some g) := by
 have hle := rvB_le R
 obtain ⟨n, k, h⟩ : ∃ n k, rvB R = (n, k) := ⟨_, _, rfl⟩
 rw [h] at hle
 obtain ⟨hk7, hkl, hn⟩ := hle
 simp only at hk7 hkl hn
 have c0 := hb.c0
 have c1 := hb.c1
 by_cases hbad : b = true ∨ k = 0
 ·have Hs := Lib.hid (show scN R b = (0, R, true) by unfold scN; rw [h, if_pos hbad])
  have fin : ∀ w1, Below w.heap.size w w1 → Blk (w1.setCell ⟨g, 1, none⟩ (.bool true)) g 91 #[.string (scN R b).2.1, .bool (scN R b).2.2] ∧ w.grownBy (w1.setCell ⟨g, 1, none⟩ (.bool true)) (some g) := fun w1 hb1 => by
   rw [Hs.out]
   exact ⟨(hb.below hb1 hb.lt).s1 _, only_setCell (only_of_below hb1 _) (.inl rfl) _⟩
  have Fin := Lib.hid fin
  clear fin
  have hk0 : b = false → ((k : Int) == 0) = true := fun hf => by
   rcases hbad with h1 | h1
   ·rw [h1] at hf; cases hf
   ·rw [h1]; rfl
  clear hbad
  cases b
  all_goals
   go_enter Tryz.func69, Tryz.ntmps69
   go_wp2_with fail
   refine (readVar_impl R hR _).mono ?_
   rintro e w1 ⟨rfl, hb1⟩
   have c10 := (hb.below hb1 hb.lt).c0
   have c11 := (hb.below hb1 hb.lt).c1
   have f11 := (hb.below hb1 hb.lt).frozen 1
   clear c0 c1
   go_wp2
   go_ret
   exact ⟨ret_int (by rw [Hs.out]), Fin.out w1 hb1⟩
 ·have Hs := Lib.hid (show scN R b = ((n : Int), dropB R k, false) by unfold scN; rw [h, if_neg hbad])
  have fin : ∀ w1, Below w.heap.size w w1 → Blk (w1.setCell ⟨g, 0, none⟩ (.string (R.extract k R.size))) g 91 #[.string (scN R b).2.1, .bool (scN R b).2.2] ∧ w.grownBy (w1.setCell ⟨g, 0, none⟩ (.string (R.extract k R.size))) (some g) := fun w1 hb1 => by
   rw [Hs.out]
   refine ⟨?_, only_setCell (only_of_below hb1 _) (.inl rfl) _⟩
   have h2 := (hb.below hb1 hb.lt).s0 (.string (R.extract k R.size))
   have hf : b = false := by cases b <;> simp at hbad ⊢
   rw [hf] at h2
   exact h2
  have Fin := Lib.hid fin
  clear fin
  have hf : b = false := by cases b <;> simp at hbad ⊢
  have hk0 : ((k : Int) == 0) = false := by simp at hbad ⊢; omega
  clear hbad
  subst hf
  go_enter Tryz.func69, Tryz.ntmps69
  go_wp2_with fail
  refine (readVar_impl R hR _).mono ?_
  rintro e w1 ⟨rfl, hb1⟩
  have c10 := (hb.below hb1 hb.lt).c0
  have c11 := (hb.below hb1 hb.lt).c1
  have f10 := (hb.below hb1 hb.lt).frozen 0
  clear c0 c1
  go_wp2
  go_ret
  exact ⟨ret_int (by rw [Hs.out]), Fin.out w1 hb1⟩

theorem gb_trans {a b c : World} {g : Nat} (h : a.grownBy b (some g)) (k : b.grownBy c (some g)) : a.grownBy c (some g) :=
 ⟨k.os.trans h.os, k.tape.trans h.tape, k.output.trans h.output, Nat.le_trans h.size k.size, fun i hi hne => (k.block i (Nat.lt_of_lt_of_le hi h.size) hne).trans (h.block i hi hne)⟩

set_option maxRecDepth 100000 in
set_option maxHeartbeats 1000000 in
theorem cut_any (g : Nat) (R : ByteArray) (b : Bool) (n : Int) (w : World) (hb : Blk w g 91 #[.string R, .bool b]) :
  Calls Tryz.prog 68 #[.pointer (some ⟨g, 0, none⟩), .int .i64 n] w fun e w' =>
   e = .returned (.string (scC R b n).1) ∧ Blk w' g 91 #[.string (scC R b n).2.1, .bool (scC R b n).2.2] ∧ w.grownBy w' (some g) := by
 have c0 := hb.c0
 have c1 := hb.c1
 by_cases hbad : b = true ∨ inI n 0 R.size = false
 ·have Hs := Lib.hid (show scC R b n = (str [], R, true) by unfold scC; rw [if_pos hbad])
  have f1 := hb.frozen 1
  have Hb := Lib.hid hb
  clear hb
  have hk0 : b = false → inI n 0 (R.size : Int) = false := fun hf => by
   rcases hbad with h1 | h1
   ·rw [h1] at hf; cases hf
   ·exact h1
  clear hbad
  cases b
  all_goals
   go_enter Tryz.func68, Tryz.ntmps68
   go_wp2_with (go_at_call 55; refine (within_any _ _ _ _).mono ?_; rintro e w' ⟨rfl, rfl⟩)
   go_ret
   refine ⟨ret_str (by rw [Hs.out]; rfl), ?_, only_setCell (grown_refl _ _) (.inl rfl) _⟩
   rw [Hs.out]
   exact Hb.out.s1 _
 ·have Hs := Lib.hid (show scC R b n = (takeB R n.toNat, dropB R n.toNat, false) by unfold scC; rw [if_neg hbad])
  have hf : b = false := by cases b <;> simp at hbad ⊢
  subst hf
  have hin : inI n 0 (R.size : Int) = true := by
   rcases hin : inI n 0 (R.size : Int) with _ | _
   ·simp [hin] at hbad
   ·rfl
  obtain ⟨h0, h1⟩ := inI_true.1 hin
  have f0 := hb.frozen 0
  have Hb := Lib.hid hb
  clear hb hbad
  go_enter Tryz.func68, Tryz.ntmps68
  go_wp2_with (go_at_call 55; refine (within_any _ _ _ _).mono ?_; rintro e w' ⟨rfl, rfl⟩)
  go_ret
  refine ⟨ret_str (by rw [Hs.out]; rfl), ?_, only_setCell (grown_refl _ _) (.inl rfl) _⟩
  rw [Hs.out]
  exact Hb.out.s0 _

/-- So many numbers one behind the other from a place on, and where they end. -/
def varsAt (l : List UInt8) : Nat → Int → Option (List Nat × Int)
 | 0, a => some ([], a)
 | n + 1, a => if a < 0 ∨ (l.length : Int) < a then none else
  if (rv (l.drop a.toNat)).2 = 0 then none else
   match varsAt l n (a + (rv (l.drop a.toNat)).2) with
   | none => none
   | some (xs, q) => some ((rv (l.drop a.toNat)).1 :: xs, q)
theorem varsAt_succ (l : List UInt8) (n : Nat) (a : Int) : varsAt l (n + 1) a = if a < 0 ∨ (l.length : Int) < a then none else
  if (rv (l.drop a.toNat)).2 = 0 then none else
   match varsAt l n (a + (rv (l.drop a.toNat)).2) with
   | none => none
   | some (xs, q) => some ((rv (l.drop a.toNat)).1 :: xs, q) := rfl
theorem varsAt_bd : ∀ (l : List UInt8) (n : Nat) (a : Int) (xs : List Nat) (q : Int), varsAt l n a = some (xs, q) → xs.length = n ∧ (∀ x ∈ xs, x < 562949953421312) ∧ a ≤ q ∧ (0 < n → 0 ≤ a ∧ q ≤ l.length)
 | l, 0, a, xs, q, h => by
  simp only [varsAt, Option.some.injEq, Prod.mk.injEq] at h
  obtain ⟨rfl, rfl⟩ := h
  simp
 | l, n + 1, a, xs, q, h => by
  rw [varsAt_succ] at h
  by_cases h1 : a < 0 ∨ (l.length : Int) < a
  ·rw [if_pos h1] at h; cases h
  ·rw [if_neg h1] at h
   by_cases h2 : (rv (l.drop a.toNat)).2 = 0
   ·rw [if_pos h2] at h; cases h
   ·rw [if_neg h2] at h
    have hle := rv_le (l.drop a.toNat)
    rw [List.length_drop] at hle
    rcases h3 : varsAt l n (a + (rv (l.drop a.toNat)).2) with _ | ⟨ys, q'⟩
    ·rw [h3] at h; cases h
    ·rw [h3] at h
     simp only [Option.some.injEq, Prod.mk.injEq] at h
     obtain ⟨rfl, rfl⟩ := h
     obtain ⟨e1, e2, e3, e4⟩ := varsAt_bd l n _ ys q' h3
     refine ⟨by simp [e1], ?_, by omega, fun _ => ?_⟩
     ·intro x hx
      rcases List.mem_cons.1 hx with rfl | hx
      ·exact hle.2.2
      ·exact e2 x hx
     ·rcases n with _ | n
      ·simp only [varsAt, Option.some.injEq, Prod.mk.injEq] at h3
       omega
      ·have := e4 (by omega); omega
/-- What is behind so many numbers more. -/
def pre (xs : List Nat) : Option (List Nat × Int) → Option (List Nat × Int)
 | none => none
 | some (ys, q) => some (xs ++ ys, q)
theorem pre_nil (o : Option (List Nat × Int)) : pre [] o = o := by rcases o with _ | ⟨ys, q⟩ <;> rfl
theorem pre_step (l : List UInt8) (xs : List Nat) (n : Nat) (a : Int) (h0 : 0 ≤ a) (h1 : a ≤ l.length) (h2 : (rv (l.drop a.toNat)).2 ≠ 0) :
  pre xs (varsAt l (n + 1) a) = pre (xs ++ [(rv (l.drop a.toNat)).1]) (varsAt l n (a + (rv (l.drop a.toNat)).2)) := by
 rw [varsAt_succ, if_neg (by omega), if_neg h2]
 rcases varsAt l n (a + (rv (l.drop a.toNat)).2) with _ | ⟨ys, q⟩ <;> simp [pre]
theorem pre_out (l : List UInt8) (xs : List Nat) (n : Nat) (a : Int) (h : a < 0 ∨ (l.length : Int) < a) : pre xs (varsAt l (n + 1) a) = none := by
 rw [varsAt_succ, if_pos h]; rfl
theorem pre_zero (l : List UInt8) (xs : List Nat) (n : Nat) (a : Int) (h0 : 0 ≤ a) (h1 : a ≤ l.length) (h2 : (rv (l.drop a.toNat)).2 = 0) : pre xs (varsAt l (n + 1) a) = none := by
 rw [varsAt_succ, if_neg (by omega), if_pos h2]; rfl

/-- Numbers as cells. -/
def I64 (l : List Nat) : List Value := l.map fun (n : Nat) => .int .i64 (n : Int)
theorem I64_append (a b : List Nat) : I64 (a ++ b) = I64 a ++ I64 b := by simp [I64]
theorem I64_cells (l : List Nat) : ∀ u ∈ I64 l, u.oneCell' = true := by
 intro u hu
 simp only [I64, List.mem_map] at hu
 obtain ⟨b, _, rfl⟩ := hu
 rfl
/-- What l7Vars leaves. -/
def VarsPost (w : World) (T : TypeId) (o : Option (List Nat × Int)) (e : Ending) (w' : World) : Prop :=
 Below w.heap.size w w' ∧ ((∃ xs q v, o = some (xs, q) ∧ e = .returned (.tuple #[v, .int .i64 q]) ∧ w'.ownsRow w.heap.size T 1 v xs.length (I64 xs)) ∨ (∃ v, o = none ∧ e = .returned (.tuple #[v, .int .i64 (-1)])))

theorem Tryz.el_int : ElemOk Tryz.prog 84 3 (.int .i64 0) 1 8 := ⟨Tryz.underlying84, by kernel_rfl, rfl, by omega⟩

set_option maxRecDepth 100000 in
set_option maxHeartbeats 1000000 in
theorem l7Vars_any (s : ByteArray) (a : Int) (n : Nat) (hs : s.size ≤ 1000000000) (hn : n ≤ 1000) (ha : -1 ≤ a) (ha' : a ≤ 1000000000) (w : World) :
  Calls Tryz.prog 91 #[.string s, .int .i64 a, .int .i64 n] w (VarsPost w 3 (varsAt s.data.toList n a)) := by
 go_enter Tryz.func91, Tryz.ntmps91
 go_wp2
 go_loopw [1, 8, 9] (fun p v i wr => ∃ (xs : List Nat) (m : Nat) (q : Int), i = .int .i64 xs.length ∧ xs.length + m = n ∧ p = .int .i64 q ∧ -1 ≤ q ∧ q ≤ 1000000000 ∧ Hid (varsAt s.data.toList n a = pre xs (varsAt s.data.toList m q)) ∧ wr.ownsRow w.heap.size 3 1 v xs.length (I64 xs) ∧ Below w.heap.size w wr)
  (fun _ _ i _ => n - (intOf i).toNat)
 case atStart => exact ⟨[], n, a, rfl, by simp, rfl, by omega, by omega, (pre_nil _).symm, World.ownsRow_lit w #[] 0 (Nat.le_refl _) (by unfold maxLen; omega) rfl, belA (bel0 w) _⟩
 case round =>
  obtain ⟨xs, m, q, rfl, hm, rfl, hq0, hq1, heq, hown, hbel⟩ := hrel
  have hsz := hbel.size
  rcases m with _ | m
  ·have hlt : ¬ (xs.length : Int) < (n : Int) := by omega
   go_wp2
   go_ret2
   exact ⟨hbel, .inl ⟨xs, q, _, by rw [heq.out]; simp [varsAt, pre], rfl, hown⟩⟩
  ·have hlt : (xs.length : Int) < (n : Int) := by omega
   by_cases hneg : q < 0
   ·go_wp2
    go_ret2
    exact ⟨hbel, .inr ⟨_, by rw [heq.out, pre_out _ _ _ _ (.inl hneg)], rfl⟩⟩
   ·by_cases hbig : (s.size : Int) < q
    ·go_wp2
     go_ret2
     exact ⟨hbel, .inr ⟨_, by rw [heq.out, pre_out _ _ _ _ (.inr (by rw [size_list]; exact hbig))], rfl⟩⟩
    ·have hq2 : 0 ≤ q := by omega
     have hq3 : q ≤ (s.size : Int) := by omega
     have hz := dropB_size s q.toNat
     have hle := rvB_le (dropB s q.toNat)
     have hd := Lib.hid (show rvB (dropB s q.toNat) = rv (s.data.toList.drop q.toNat) by rw [rvB, dropB_list])
     obtain ⟨x, k, h⟩ : ∃ x k, rvB (dropB s q.toNat) = (x, k) := ⟨_, _, rfl⟩
     rw [h] at hle
     obtain ⟨hk7, hkl, hx⟩ := hle
     simp only at hk7 hkl hx
     have H := Lib.hid h
     have Hx := Lib.hid hx
     unfold dropB at h hz hkl
     clear hneg hbig hx
     by_cases hk : k = 0
     ·have hk0 : ((k : Int) == 0) = true := by rw [hk]; rfl
      have Hk := Lib.hid hk
      clear hk hkl
      go_wp2_with (go_at_call 115; refine (readVar_spec _ (by omega) _).mono ?_; rintro e w1 ⟨rfl, hb1⟩)
      go_ret2
      exact ⟨belN hbel hb1, .inr ⟨_, by rw [heq.out, pre_zero _ _ _ _ hq2 (by rw [size_list]; exact hq3) (by rw [← hd.out, H.out]; exact Hk.out)], rfl⟩⟩
     ·have hk0 : ((k : Int) == 0) = false := by simp; exact hk
      have Hk := Lib.hid hk
      clear hk
      go_wp2_with (first
       | (go_at_call 115; refine (readVar_spec _ (by omega) _).mono ?_; rintro e w1 ⟨rfl, hb1⟩; have hown1 := own_below hown hb1 (Nat.le_refl _); have hs1 := hb1.size)
       | (at_builtin; go_must (refine wpList_app _ rfl _ _ _ rfl Tryz.el_int (hown1.alloc _) rfl (reads_new _ _ _ _ 1 (by rfl)) rfl (I64_cells [x]) (max_small (by omega)) (by omega) (by simp; omega) ?_); intro v2 w2 own2 hg2 _ hb2))
      go_roundw
      case rel =>
       refine ⟨xs ++ [x], m, q + k, by rw [List.length_append]; go_num, by rw [List.length_append]; simp; omega, rfl, by omega, by omega, ?_, ?_, (((hbel.trans (hb1.mono hsz)).alloc (by omega) _)).trans hb2⟩
       ·show _ = _
        rw [heq.out, pre_step _ _ _ _ hq2 (by rw [size_list]; exact hq3) (by rw [← hd.out, H.out]; exact Hk.out), ← hd.out, H.out]
       ·rw [I64_append, List.length_append]; exact own2
      case measure => simp [intOf]; omega

theorem Blk.get {w : World} {g : Nat} {t : TypeId} {cs : Array Value} {x : Value} (h : Blk w g t cs) (i : Nat) (hx : cs[i]? = some x) : w.cell? ⟨g, i, none⟩ = some x := (h.cell i).trans hx
section
variable {w : World} {g : Nat} {t : TypeId} {a0 a1 a2 a3 a4 a5 a6 a7 a8 : Value}
theorem Blk.g3 (h : Blk w g t #[a0, a1, a2]) : w.cell? ⟨g, 0, none⟩ = some a0 ∧ w.cell? ⟨g, 1, none⟩ = some a1 ∧ w.cell? ⟨g, 2, none⟩ = some a2 := ⟨h.get 0 rfl, h.get 1 rfl, h.get 2 rfl⟩
theorem Blk.g9 (h : Blk w g t #[a0, a1, a2, a3, a4, a5, a6, a7, a8]) : w.cell? ⟨g, 0, none⟩ = some a0 ∧ w.cell? ⟨g, 1, none⟩ = some a1 ∧ w.cell? ⟨g, 2, none⟩ = some a2 ∧ w.cell? ⟨g, 3, none⟩ = some a3 ∧ w.cell? ⟨g, 4, none⟩ = some a4 ∧
    w.cell? ⟨g, 5, none⟩ = some a5 ∧ w.cell? ⟨g, 6, none⟩ = some a6 ∧ w.cell? ⟨g, 7, none⟩ = some a7 ∧ w.cell? ⟨g, 8, none⟩ = some a8 :=
  ⟨h.get 0 rfl, h.get 1 rfl, h.get 2 rfl, h.get 3 rfl, h.get 4 rfl, h.get 5 rfl, h.get 6 rfl, h.get 7 rfl, h.get 8 rfl⟩
theorem Blk.f3 {cs : Array Value} (h : Blk w g t cs) : w.frozen? ⟨g, 0, none⟩ = false ∧ w.frozen? ⟨g, 1, none⟩ = false ∧ w.frozen? ⟨g, 2, none⟩ = false := ⟨h.frozen 0, h.frozen 1, h.frozen 2⟩
theorem Blk.f9 {cs : Array Value} (h : Blk w g t cs) : w.frozen? ⟨g, 0, none⟩ = false ∧ w.frozen? ⟨g, 1, none⟩ = false ∧ w.frozen? ⟨g, 2, none⟩ = false ∧ w.frozen? ⟨g, 3, none⟩ = false ∧ w.frozen? ⟨g, 4, none⟩ = false ∧
    w.frozen? ⟨g, 5, none⟩ = false ∧ w.frozen? ⟨g, 6, none⟩ = false ∧ w.frozen? ⟨g, 7, none⟩ = false ∧ w.frozen? ⟨g, 8, none⟩ = false :=
  ⟨h.frozen 0, h.frozen 1, h.frozen 2, h.frozen 3, h.frozen 4, h.frozen 5, h.frozen 6, h.frozen 7, h.frozen 8⟩
end

/-- The nine cells of an empty book. -/
abbrev zB_ : Array Value := #[.slice none 0 0, .slice none 0 0, .slice none 0 0, .slice none 0 0, .int .i64 0, .int .i64 0, .int .i64 0, .int .i64 0, .int .i64 0]

theorem pT_ {α : Type _} {l : List α} {i : Nat} {a : α} : l.toArray.setIfInBounds i a = (l.set i a).toArray := List.setIfInBounds_toArray l i a
theorem pZ_ {α : Type _} {x : α} {xs : List α} {a : α} : (x :: xs).set 0 a = a :: xs := List.set_cons_zero
theorem pS_ {α : Type _} {x : α} {xs : List α} {n : Nat} {a : α} : (x :: xs).set (n + 1) a = x :: xs.set n a := List.set_cons_succ
theorem gT_ {α : Type _} {l : List α} {i : Nat} : l.toArray[i]? = l[i]? := List.getElem?_toArray
theorem gZ_ {α : Type _} {x : α} {xs : List α} : (x :: xs)[0]? = some x := List.getElem?_cons_zero
theorem gS_ {α : Type _} {x : α} {xs : List α} {n : Nat} : (x :: xs)[n + 1]? = xs[n]? := List.getElem?_cons_succ
section
variable {P : Program} {ops : Array Oper} {Q : Exit → Act → World → Prop} {md : Region.Mode} {S : World → Prop}
theorem tkV_ (i : Nat) {oi : Oper} {v : Value} {fuel : Nat} {listed : Array Bool} {a : Act} {w : World} (hy : YieldsIf P ops S oi v a) (hS : S w)
    (h : wpAnyH P md ops Q S fuel (listed.setIfInBounds i true) (a.put oi.dst v) w)
    (hi : ops[i]? = some oi := by (conv => lhs; simp only [gT_, gZ_, gS_]); try exact rfl)
    (hs : Region.noSelect ops = true := by kernel_rfl) (hf : Region.free md ops listed i = true := by kernel_rfl) (hr : (Region.ready md ops listed).contains i = true := by kernel_rfl)
    (hQ : ∀ c a w, Q (.panic c) (a.put oi.dst v) w → Q (.panic c) a w := by exact fun _ _ _ h => h) : wpAnyH P md ops Q S (fuel + 1) listed a w := wpAnyH_take hi hs hf hr hQ hy hS h
theorem tkU_ (i : Nat) {oi : Oper} {fuel : Nat} {listed : Array Bool} {a : Act} {w : World} (hS : S w)
    (h : wpAnyH P md ops Q S fuel (listed.setIfInBounds i true) (a.put oi.dst undef) w)
    (hi : ops[i]? = some oi := by (conv => lhs; simp only [gT_, gZ_, gS_]); try exact rfl)
    (hs : Region.noSelect ops = true := by kernel_rfl) (hf : Region.free md ops listed i = true := by kernel_rfl) (hr : (Region.ready md ops listed).contains i = true := by kernel_rfl)
    (hQ : ∀ c a w, Q (.panic c) (a.put oi.dst undef) w → Q (.panic c) a w := by exact fun _ _ _ h => h) (hy : YieldsIf P ops S oi undef a := by exact Or.inr ⟨by rfl, rfl⟩) :
    wpAnyH P md ops Q S (fuel + 1) listed a w := wpAnyH_take hi hs hf hr hQ hy hS h
end
theorem Blk.new' (w : World) (t : TypeId) (cs : Array Value) (g : Nat) (hg : g = w.heap.size := by simp) : Blk (w.alloc (.cells cs t)) g t cs := by subst hg; exact Blk.new w t cs
theorem Blk.put {w : World} {g : Nat} {t : TypeId} {cs : Array Value} (h : Blk w g t cs) (i : Nat) (u : Value) (cs' : Array Value) (hc : cs.setIfInBounds i u = cs') : Blk (w.setCell ⟨g, i, none⟩ u) g t cs' := hc ▸ h.set_ i u
theorem scN_le (s : ByteArray) (b : Bool) : (scN s b).2.1.size ≤ s.size := by
 unfold scN; split
 ·exact Nat.le_refl _
 ·simp only [dropB_size]; omega
theorem dropB_dropB (s : ByteArray) (a b : Nat) : dropB (dropB s a) b = dropB s (a + b) := bytes_ext (by simp only [dropB_list, List.drop_drop])
theorem belG {a W w1 : World} {g : Nat} (h : Below a.heap.size a W) (hg : W.grownBy w1 (some g)) (hgb : a.heap.size ≤ g) : Below a.heap.size a w1 :=
 h.grown hg h.size (fun k hk => by injection hk with hk; omega)
theorem belC {a W : World} (h : Below a.heap.size a W) (g o : Nat) (hg : a.heap.size ≤ g) (u : Value) : Below a.heap.size a (W.setCell ⟨g, o, none⟩ u) := h.setCell (p := ⟨g, o, none⟩) hg u
theorem not_empty (s : ByteArray) (h : 0 < s.size) : s.toList.isEmpty = false := by
 rw [ByteArray.toList_eq]
 cases hl : s.data.toList with
 | nil => have := size_list s; rw [hl] at this; simp at this; omega
 | cons => rfl
theorem own_vals {w : World} {base : Nat} {e : TypeId} {size n : Nat} {v : Value} {xs : List Value} (h : w.ownsRow base e size v n xs) : ∃ A c, v = .slice A n c ∧ n ≤ c ∧ c ≤ maxLen ∧ Reads w w.heap.size size A n xs := by
 rcases h.2 with ⟨rfl, rfl⟩ | ⟨g, cap, cur, rfl, _, _, hc, hm, _⟩
 ·exact ⟨none, 0, rfl, Nat.le_refl _, Nat.zero_le _, by have := h.1; simp at this; subst this; exact Reads.none_⟩
 ·exact ⟨_, cap, rfl, hc, hm, Reads.of_own h⟩
theorem own_some {w : World} {base : Nat} {e : TypeId} {size n g c : Nat} {xs : List Value} (h : w.ownsRow base e size (.slice (some ⟨g, 0, none⟩) n c) n xs) :
  base ≤ g ∧ ∃ cur, w.heap[g]? = some (.cells cur e (0, 0)) ∧ n ≤ c ∧ c ≤ maxLen ∧ cur.size = c * size ∧ cur.toList.take (n * size) = xs := by
 rcases h.2 with ⟨h', _⟩ | ⟨g', cap, cur, h', hb, hg, hn, hc, hs, ht⟩
 ·cases h'
 ·simp only [Value.slice.injEq, Option.some.injEq, Addr.mk.injEq, and_true, true_and] at h'
  obtain ⟨rfl, rfl⟩ := h'
  exact ⟨hb, cur, hg, hn, hc, hs, ht⟩
theorem own_frozen {w : World} {base : Nat} {e : TypeId} {size n g c : Nat} {xs : List Value} (h : w.ownsRow base e size (.slice (some ⟨g, 0, none⟩) n c) n xs) (k : Nat) : w.frozen? ⟨g, k, none⟩ = false := by
 obtain ⟨_, cur, hg, _⟩ := own_some h
 simp [World.frozen?, hg]
theorem own_set {w : World} {base : Nat} {e : TypeId} {size n g c : Nat} {xs : List Value} (h : w.ownsRow base e size (.slice (some ⟨g, 0, none⟩) n c) n xs) (k : Nat) (u : Value) :
  (w.setCell ⟨g, k, none⟩ u).ownsRow base e size (.slice (some ⟨g, 0, none⟩) n c) n (xs.set k u) := by
 obtain ⟨hb, cur, hg, hn, hc, hs, ht⟩ := own_some h
 refine ⟨by rw [List.length_set]; exact h.1, .inr ⟨g, c, cur.setIfInBounds k u, rfl, hb, by simp [World.setCell, Array.getElem?_modify, hg], hn, hc, by simpa using hs, ?_⟩⟩
 rw [Array.toList_setIfInBounds, List.take_set, ht]
/-- The first so many of a row of one's own. -/
theorem own_pre {w : World} {base : Nat} {e : TypeId} {n g c : Nat} {xs : List Value} (h : w.ownsRow base e 1 (.slice (some ⟨g, 0, none⟩) n c) n xs) (m : Nat) (hm : m ≤ n) :
  w.ownsRow base e 1 (.slice (some ⟨g, 0, none⟩) m c) m (xs.take m) := by
 obtain ⟨hb, cur, hg, hn, hc, hs, ht⟩ := own_some h
 have h1 := h.1
 refine ⟨by rw [List.length_take]; omega, .inr ⟨g, c, cur, rfl, hb, hg, by omega, hc, hs, ?_⟩⟩
 rw [← ht, List.take_take]; congr 1; omega
theorem own_form1 {w : World} {base : Nat} {e : TypeId} {size n : Nat} {v : Value} {xs : List Value} (h : w.ownsRow base e size v n xs) (hn : 0 < n) : ∃ g c, v = .slice (some ⟨g, 0, none⟩) n c := by
 obtain ⟨g, c, h1, _⟩ := h.form hn
 exact ⟨g, c, h1⟩
theorem only_sc {a w : World} {g : Nat} (h : a.grownBy w (some g)) (k : Nat) (u : Value) : a.grownBy (w.setCell ⟨g, k, none⟩ u) (some g) := only_setCell (p := ⟨g, k, none⟩) h (.inl rfl) u
theorem gb_below {a w w1 : World} {g : Nat} (h : a.grownBy w (some g)) (hb : Below w.heap.size w w1) : a.grownBy w1 (some g) :=
 ⟨hb.os.trans h.os, hb.tape.trans h.tape, hb.output.trans h.output, Nat.le_trans h.size hb.size, fun i hi hn => (hb.block i (Nat.lt_of_lt_of_le hi h.size)).trans (h.block i hi hn)⟩
theorem ret_bool {a b : Bool} (h : a = b) : Ending.returned (.bool a) = .returned (.bool b) := by rw [h]

end Go.Proofs.YtghgafbfpejinaaGreatDoor
