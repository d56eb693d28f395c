/- Words for memory over any program; plain facts on numbers and texts; the walks of the functions on numbers; reading a text; rows of one's own. -/
import Derived.WalkKit
import Derived.WalkSpells
import Derived.WalkLawsBesides
import Derived.Below
import Derived.Laws.OwnMore
import Derived.Deep.AppendLies
import Derived.Deep.Draws
import Derived.Laws.Rows
import Derived.Maps.AppendAt
import Derived.RegionTactic
import Derived.OwnWalk
import Derived.Deep.OwnRows
import Derived.Deep.QuietTactic
import Derived.Laws.AppendOwn
import Derived.Laws.BitsAllLaws
import Derived.Laws.BitsLemmas
import Derived.Laws.MakeOwn
import Derived.Laws.BytesArg
import Derived.Lib.Hide
import Derived.OrdersHeld
import Derived.Test.YtjjniapamdleoaaGreatDoorRows
import Derived.Deep.DeepMust
import Derived.Lib.Strings
import Derived.Deep.RegionHeld3
namespace Go.Proofs.YtjjniapamdleoaaGreatDoor
open Go Go.RowKit
set_option maxHeartbeats 1000000

theorem block_of_add (a : Addr) (n : Nat) : (a.add n).block = a.block := by unfold Addr.add; split <;> rfl
theorem add_of_add (a : Addr) (i j : Nat) : (a.add i).add j = a.add (i + j) := by
 unfold Addr.add
 by_cases hi : i = 0 <;> by_cases hj : j = 0 <;> simp [hi, hj, Nat.add_assoc]

def Reads (w : World) (B size : Nat) (A : Option Addr) (n : Nat) (xs : List Value) : Prop :=
 xs.length = n * size /\ (0 < n -> ∃ ad, A = some ad /\ ad.block < B /\ ∀ j u, xs[j]? = some u -> w.cell? (ad.add j) = some u)

section
variable {w w' : World} {B B' size n : Nat} {A : Option Addr} {xs : List Value}
theorem Reads.none_ : Reads w B size A 0 [] := ⟨by simp, fun h => absurd h (by omega)⟩
theorem Reads.at_ {k : Nat} (h : Reads w B 1 A n xs) (hk : k < n) : ∃ ad u, A = some ad /\ ad.block < B /\ xs[k]? = some u /\ w.cell? (ad.add k) = some u := by
 obtain ⟨ad, e, hb, hc⟩ := h.2 (by omega)
 have hl : k < xs.length := by have := h.1; omega
 exact ⟨ad, xs[k], e, hb, List.getElem?_eq_getElem hl, hc k _ (List.getElem?_eq_getElem hl)⟩
theorem Reads.keep (h : Reads w B size A n xs) (hk : ∀ p : Addr, p.block < B -> w'.cell? p = w.cell? p) : Reads w' B size A n xs :=
 ⟨h.1, fun hn => by
  obtain ⟨ad, e, hb, hc⟩ := h.2 hn
  exact ⟨ad, e, hb, fun j u hu => (hk _ (by rw [block_of_add]; exact hb)).trans (hc j u hu)⟩⟩
theorem Reads.more (h : Reads w B size A n xs) (hB : B <= B') : Reads w B' size A n xs :=
 ⟨h.1, fun hn => by
  obtain ⟨ad, e, hb, hc⟩ := h.2 hn
  exact ⟨ad, e, by omega, hc⟩⟩
theorem Reads.below (h : Reads w B size A n xs) (hb : Below B w w') : Reads w' B size A n xs := h.keep fun _ hp => hb.cell hp
theorem Reads.drew (h : Reads w B size A n xs) : Reads w.drew B size A n xs := h
theorem Reads.drewN (h : Reads w B size A n xs) (k : Nat) : Reads (w.drewN k) B size A n xs := h
theorem Reads.cut (h : Reads w B size A n xs) {k cap : Nat} (hk : k <= n) (hc : n <= cap) :
  Reads w B size (if cap = k then A else A.map (·.add (k * size))) (n - k) (xs.drop (k * size)) := by
 refine ⟨by rw [List.length_drop, h.1, Nat.sub_mul], fun hn => ?_⟩
 obtain ⟨ad, rfl, hb, hcell⟩ := h.2 (by omega)
 rw [if_neg (by omega)]
 refine ⟨ad.add (k * size), rfl, by rw [block_of_add]; exact hb, fun j u hu => ?_⟩
 rw [add_of_add]
 exact hcell _ u (by rw [<- hu, List.getElem?_drop])
theorem Reads.of_own {base : Nat} {e : TypeId} {c : Nat} (h : w.ownsRow base e size (.slice A n c) n xs) : Reads w w.heap.size size A n xs := by
 refine ⟨h.1, fun hn => ?_⟩
 obtain ⟨g, cap, hv, _, hlt⟩ := h.form hn
 have hA : A = some ⟨g, 0, none⟩ := by injection hv
 subst hA
 exact ⟨_, rfl, hlt, h.cells (g := g) rfl⟩
end

def Blk (w : World) (g : Nat) (t : TypeId) (cs : Array Value) : Prop := w.heap[g]? = some (.cells cs t (0, 0))

section
variable {w w' : World} {g : Nat} {t : TypeId} {cs : Array Value}
theorem Blk.lt (h : Blk w g t cs) : g < w.heap.size := by
 rcases Nat.lt_or_ge g w.heap.size with hlt | hge
 ·exact hlt
 ·unfold Blk at h; rw [Array.getElem?_eq_none hge] at h; cases h
theorem Blk.cell (h : Blk w g t cs) (i : Nat) : w.cell? ⟨g, i, none⟩ = cs[i]? := cell_of_row w g i cs t (0, 0) h
theorem Blk.frozen (h : Blk w g t cs) (i : Nat) : w.frozen? ⟨g, i, none⟩ = false := by
 unfold Blk at h
 simp [World.frozen?, h]
theorem Blk.new (w : World) (t : TypeId) (cs : Array Value) : Blk (w.alloc (.cells cs t)) w.heap.size t cs := heap_alloc_new w _
theorem Blk.drew (h : Blk w g t cs) : Blk w.drew g t cs := h
theorem Blk.alloc (h : Blk w g t cs) (o : Obj) : Blk (w.alloc o) g t cs := (Below.heap_alloc w o g h.lt).trans h
theorem Blk.set_ (h : Blk w g t cs) (i : Nat) (u : Value) : Blk (w.setCell ⟨g, i, none⟩ u) g t (cs.setIfInBounds i u) := by
 unfold Blk at h ⊢
 simp [World.setCell, Array.getElem?_modify, h]
theorem Blk.far (h : Blk w g t cs) {p : Addr} (hp : g ≠ p.block) (u : Value) : Blk (w.setCell p u) g t cs := (Below.heap_setCell w p u g hp).trans h
theorem Blk.below {B : Nat} (h : Blk w g t cs) (hb : Below B w w') (hg : g < B) : Blk w' g t cs := (hb.block g hg).trans h
theorem Blk.grown {row : Option Nat} (h : Blk w g t cs) (hb : w.grownBy w' row) (hg : some g ≠ row) : Blk w' g t cs := (hb.block g h.lt hg).trans h
theorem Blk.ne_ {g' : Nat} {t' : TypeId} {cs' : Array Value} (h : Blk w g t cs) (h' : Blk w g' t' cs') (hne : t ≠ t') : g ≠ g' := by
 rintro rfl
 unfold Blk at h h'
 rw [h] at h'
 injection h' with h'
 injection h' with _ ht
 exact hne ht
theorem own_blk_ne {base : Nat} {e : TypeId} {size n : Nat} {v : Value} {xs : List Value} (h : w.ownsRow base e size v n xs) (hg : Blk w g t cs) (hne : e ≠ t) : v.ownBlock ≠ some g := by
 rcases h.2 with ⟨rfl, _⟩ | ⟨g', cap, cur, rfl, _, hh, _⟩
 ·simp [Value.ownBlock]
 ·intro he
  have : g' = g := by simpa [Value.ownBlock] using he
  subst this
  exact Blk.ne_ (t := e) hh hg hne rfl
end

section
variable {P : Program} (w : World)

theorem run_append_of_nil (base : Nat) (t ty e : TypeId) (i : TypeInfo) (size : Nat) (ht : P.underlying t = some (.slice e)) (hi : P.info? e = some i)
  (v : Value) (n : Nat) (xs : List Value) (hown : w.ownsRow base e size v n xs) (c : Nat) : (Builtin.append_ #[t, t] ty #[v, .slice none 0 c]).run P w = .ok v w := by
 rcases hown.2 with ⟨rfl, rfl⟩ | ⟨g, cap, cur, rfl, _, _, hnc, _⟩
 ·simp [Builtin.append_, run_underlying ht, sizeOf, typeInfo, hi, Builtin.lenOf, Builtin.firstCells]
 ·simp [Builtin.append_, run_underlying ht, sizeOf, typeInfo, hi, Builtin.lenOf, Builtin.firstCells, hnc, storeCells]

theorem run_append_any (base : Nat) (t ty e : TypeId) (i : TypeInfo) (z : Value) (size bytes : Nat) (ht : P.underlying t = some (.slice e)) (hi : P.info? e = some i) (hz : i.zero = some z)
  (hsize : i.size = size) (hby : i.bytes = bytes) (hzs : z.cells.size = size) (hsz : 0 < size)
  (v : Value) (n : Nat) (xs : List Value) (hown : w.ownsRow base e size v n xs)
  (B : Nat) (A : Option Addr) (m c : Nat) (news : List Value) (hr : Reads w B size A m news) (h1 : ∀ u ∈ news, u.oneCell' = true)
  (h63 : n + m <= maxLen) (hbytes : (n + m) * bytes <= 140737488355328) (hbase : base <= w.heap.size) :
  ∃ v' w', (Builtin.append_ #[t, t] ty #[v, .slice A m c]).run P w = .ok v' w' /\ w'.ownsRow base e size v' (n + m) (xs ++ news) /\ w.grownBy w' v.ownBlock /\
   (v'.ownBlock = v.ownBlock ∨ v'.ownBlock = some w.heap.size) := by
 rcases A with _ | ad
 ·have hm : m = 0 := by
   rcases Nat.eq_zero_or_pos m with h0 | h0
   ·exact h0
   ·obtain ⟨ad, h, _⟩ := hr.2 h0
    cases h
  subst hm
  have hn : news = [] := List.eq_nil_of_length_eq_zero (by simpa using hr.1)
  subst hn
  exact ⟨v, w, run_append_of_nil w base t ty e i size ht hi v n xs hown c, by simpa using hown, World.grownBy.refl w _, .inl rfl⟩
 ·have hcells : ∀ j u, news[j]? = some u -> w.cell? (ad.add j) = some u := by
   intro j u hu
   rcases Nat.eq_zero_or_pos m with h0 | h0
   ·subst h0
    have hn : news = [] := List.eq_nil_of_length_eq_zero (by simpa using hr.1)
    subst hn
    simp at hu
   ·obtain ⟨ad', h, _, hc⟩ := hr.2 h0
    injection h with h
    subst h
    exact hc j u hu
  obtain ⟨v', w', hrun, h2, h3, _, h5⟩ := run_append_own_at (P := P) w base t ty e i z size bytes ht hi hz hsize hby hzs hsz v n xs hown ad m c news hr.1 hcells h1 h63 hbytes hbase
  exact ⟨v', w', hrun, h2, h3, h5⟩

theorem wp_append_any {o : Oper} {a : Act} {K : Act -> World -> Prop} {Q : Exit -> Act -> World -> Prop} (s x : Operand) (t : TypeId)
  (ho : o.op = .call { callee := .builtin .append, args := #[s, x], argTypes := #[t, t] })
  (base : Nat) (e : TypeId) (i : TypeInfo) (z : Value) (size bytes : Nat) (ht : P.underlying t = some (.slice e)) (hi : P.info? e = some i) (hz : i.zero = some z)
  (hsize : i.size = size) (hby : i.bytes = bytes) (hzs : z.cells.size = size) (hsz : 0 < size)
  (v : Value) (n : Nat) (xs : List Value) (hs : a.eval s = v) (hown : w.ownsRow base e size v n xs)
  (B : Nat) (A : Option Addr) (m c : Nat) (news : List Value) (hx : a.eval x = .slice A m c) (hr : Reads w B size A m news) (h1 : ∀ u ∈ news, u.oneCell' = true)
  (h63 : n + m <= maxLen) (hbytes : (n + m) * bytes <= 140737488355328) (hbase : base <= w.heap.size)
  (h : ∀ v' w', w'.ownsRow base e size v' (n + m) (xs ++ news) -> w.grownBy w' v.ownBlock -> (v'.ownBlock = v.ownBlock ∨ v'.ownBlock = some w.heap.size) -> K (a.put o.dst v') w') : o.wp P a w K Q := by
 obtain ⟨v', w', hrun, h2, h3, h4⟩ := run_append_any (P := P) w base t o.type e i z size bytes ht hi hz hsize hby hzs hsz v n xs hown B A m c news hr h1 h63 hbytes hbase
 unfold Oper.wp execOp
 simp only [ho, resolve, invoke, builtin, Sem.run_bind, Sem.run_pure, Result.andThen_ok, List.map_toArray, List.map_cons, List.map_nil, hs, hx, hrun]
 exact h v' w' h2 h3 h4

theorem wpList_append_any {ops : Array Oper} {rest : List Oper} {o : Oper} {a : Act} {Q : Exit -> Act -> World -> Prop} (hgd : o.guard = none) (s x : Operand) (t : TypeId)
  (ho : o.op = .call { callee := .builtin .append, args := #[s, x], argTypes := #[t, t] })
  (base : Nat) (e : TypeId) (i : TypeInfo) (z : Value) (size bytes : Nat) (ht : P.underlying t = some (.slice e)) (hi : P.info? e = some i) (hz : i.zero = some z)
  (hsize : i.size = size) (hby : i.bytes = bytes) (hzs : z.cells.size = size) (hsz : 0 < size)
  (v : Value) (n : Nat) (xs : List Value) (hs : a.eval s = v) (hown : w.ownsRow base e size v n xs)
  (B : Nat) (A : Option Addr) (m c : Nat) (news : List Value) (hx : a.eval x = .slice A m c) (hr : Reads w B size A m news) (h1 : ∀ u ∈ news, u.oneCell' = true)
  (h63 : n + m <= maxLen) (hbytes : (n + m) * bytes <= 140737488355328) (hbase : base <= w.heap.size)
  (h : ∀ v' w', w'.ownsRow base e size v' (n + m) (xs ++ news) -> w.grownBy w' v.ownBlock -> (v'.ownBlock = v.ownBlock ∨ v'.ownBlock = some w.heap.size) -> wpList P ops Q rest (a.put o.dst v') w') : wpList P ops Q (o :: rest) a w :=
 wpList_plain hgd fun _ hK => wp_append_any w s x t ho base e i z size bytes ht hi hz hsize hby hzs hsz v n xs hs hown B A m c news hx hr h1 h63 hbytes hbase fun v' w' h2 h3 h4 => hK _ _ (h v' w' h2 h3 h4)

end

theorem below_drewN {B : Nat} {a w : World} (h : Below B a w) (n : Nat) : Below B a (w.drewN n) := ⟨h.os, h.tape, h.output, h.size, h.block⟩
theorem only_drewN {a w : World} {row : Option Nat} (h : a.grownBy w row) (n : Nat) : a.grownBy (w.drewN n) row := ⟨h.os, h.tape, h.output, h.size, h.block⟩
theorem only_drew {a w : World} {row : Option Nat} (h : a.grownBy w row) : a.grownBy w.drew row := ⟨h.os, h.tape, h.output, h.size, h.block⟩
theorem only_setCell {a w : World} {g : Nat} (h : a.grownBy w (some g)) {p : Addr} (hp : p.block = g ∨ a.heap.size <= p.block) (u : Value) : a.grownBy (w.setCell p u) (some g) :=
 ⟨h.os, h.tape, h.output, by simpa [World.setCell] using h.size, fun i hi hne => (Below.heap_setCell w p u i (by
  rintro rfl
  rcases hp with hp | hp
  ·exact hne (by rw [hp])
  ·omega)).trans (h.block i hi hne)⟩
theorem ofInt_i64 (a : Nat) (ha : a < 9223372036854775808) : (BitVec.ofInt 64 (a : Int)).toNat = a := by
 rw [BitVec.ofInt_natCast, BitVec.toNat_ofNat]; exact Nat.mod_eq_of_lt (by omega)
theorem i64_and_nat (a b : Nat) (ha : a < 9223372036854775808) (hb : b < 9223372036854775808) : bits .and .i64 (a : Int) (b : Int) = ((a &&& b : Nat) : Int) := by
 have hx : a &&& b < 2 ^ 63 := Nat.and_lt_two_pow _ (by omega)
 show IntKind.i64.wrap ((BitVec.ofInt 64 (a : Int) &&& BitVec.ofInt 64 (b : Int)).toNat : Int) = _
 rw [BitVec.toNat_and, ofInt_i64 a ha, ofInt_i64 b hb, IntKind.wrap_i64]
 omega
theorem i64_or_nat (a b : Nat) (ha : a < 9223372036854775808) (hb : b < 9223372036854775808) : bits .or .i64 (a : Int) (b : Int) = ((a ||| b : Nat) : Int) := by
 have hx : a ||| b < 2 ^ 63 := Nat.or_lt_two_pow (by omega) (by omega)
 show IntKind.i64.wrap ((BitVec.ofInt 64 (a : Int) ||| BitVec.ofInt 64 (b : Int)).toNat : Int) = _
 rw [BitVec.toNat_or, ofInt_i64 a ha, ofInt_i64 b hb, IntKind.wrap_i64]
 omega
theorem i64_xor_nat (a b : Nat) (ha : a < 9223372036854775808) (hb : b < 9223372036854775808) : bits .xor .i64 (a : Int) (b : Int) = ((a ^^^ b : Nat) : Int) := by
 have hx : a ^^^ b < 2 ^ 63 := Nat.xor_lt_two_pow (by omega) (by omega)
 show IntKind.i64.wrap ((BitVec.ofInt 64 (a : Int) ^^^ BitVec.ofInt 64 (b : Int)).toNat : Int) = _
 rw [BitVec.toNat_xor, ofInt_i64 a ha, ofInt_i64 b hb, IntKind.wrap_i64]
 omega

/-! ### What a slice type's elements are, in one word -/
structure ElemOk (P : Program) (t e : TypeId) (z : Value) (size bytes : Nat) : Prop where
 ht : P.underlying t = some (.slice e)
 hi : (P.info? e).map (fun i => (i.zero, i.size, i.bytes)) = some (some z, size, bytes)
 hzs : z.cells.size = size
 hsz : 0 < size

theorem below_grownBy {w w' : World} {base n size : Nat} {e : TypeId} {v : Value} {xs : List Value} (hown : w.ownsRow base e size v n xs) (hg : w.grownBy w' v.ownBlock) (hb : base <= w.heap.size) : Below base w w' :=
 (Below.refl _ _).grown hg hb fun k hk => (hown.lt k hk).1

theorem own_below {w w' : World} {base n size : Nat} {e : TypeId} {v : Value} {xs : List Value} (hown : w.ownsRow base e size v n xs) {B : Nat} (hb : Below B w w') (hB : w.heap.size <= B) : w'.ownsRow base e size v n xs := by
 obtain ⟨h1, h2⟩ := hown
 refine ⟨h1, ?_⟩
 rcases h2 with h2 | ⟨g, cap, cur, hv, hg, hh, r⟩
 ·exact .inl h2
 ·refine .inr ⟨g, cap, cur, hv, hg, ?_, r⟩
  have hlt : g < w.heap.size := (Array.getElem?_eq_some_iff.1 hh).1
  rw [hb.block g (by omega)]
  exact hh

theorem own_more {w : World} {base base' n size : Nat} {e : TypeId} {v : Value} {xs : List Value} (hown : w.ownsRow base e size v n xs) (hB : base' <= base) : w.ownsRow base' e size v n xs := by
 obtain ⟨h1, h2⟩ := hown
 refine ⟨h1, ?_⟩
 rcases h2 with h2 | ⟨g, cap, cur, hv, hg, hh, r⟩
 ·exact .inl h2
 ·exact .inr ⟨g, cap, cur, hv, by omega, hh, r⟩

section
variable {P : Program} (w : World)
/-- append onto a row of the call's own: the source nil, empty or not; what comes back; that below the row's base nothing has turned. -/
theorem wpList_app {ops : Array Oper} {rest : List Oper} {o : Oper} {a : Act} {Q : Exit -> Act -> World -> Prop} (hgd : o.guard = none) (s x : Operand) (t : TypeId)
  (ho : o.op = .call { callee := .builtin .append, args := #[s, x], argTypes := #[t, t] })
  {e : TypeId} {z : Value} {size bytes : Nat} (hE : ElemOk P t e z size bytes)
  {base : Nat} {v : Value} {n : Nat} {xs : List Value} (hown : w.ownsRow base e size v n xs) (hs : a.eval s = v)
  {B : Nat} {A : Option Addr} {m c : Nat} {news : List Value} (hr : Reads w B size A m news) (hx : a.eval x = .slice A m c) (h1 : ∀ u ∈ news, u.oneCell' = true)
  (h63 : n + m <= maxLen) (hbytes : (n + m) * bytes <= 140737488355328) (hbase : base <= w.heap.size)
  (h : ∀ v' w', w'.ownsRow base e size v' (n + m) (xs ++ news) -> w.grownBy w' v.ownBlock -> (v'.ownBlock = v.ownBlock ∨ v'.ownBlock = some w.heap.size) -> Below base w w' -> wpList P ops Q rest (a.put o.dst v') w') : wpList P ops Q (o :: rest) a w := by
 obtain ⟨i, hi, hz, hsize, hby⟩ := info_parts hE.hi
 exact wpList_append_any w hgd s x t ho base e i z size bytes hE.ht hi hz hsize hby hE.hzs hE.hsz v n xs hs hown B A m c news hx hr h1 h63 hbytes hbase fun v' w' h2 h3 h4 => h v' w' h2 h3 h4 (below_grownBy hown h3 hbase)

theorem reads_new (cs : Array Value) (e : TypeId) (size m : Nat) (hs : cs.size = m * size) :
  Reads (w.alloc (.cells cs e)) (w.heap.size + 1) size (some ⟨w.heap.size, 0, none⟩) m cs.toList := by
 refine ⟨by simpa using hs, fun _ => ⟨_, rfl, by simp, fun j u hu => ?_⟩⟩
 have ha : (⟨w.heap.size, 0, none⟩ : Addr).add j = ⟨w.heap.size, j, none⟩ := by unfold Addr.add; split <;> simp_all
 rw [ha, World.cell?_alloc_at _ _ _ _ rfl]
 simpa using hu

end

/-! ### Texts -/
/-- A text of bytes. -/
def str (l : List UInt8) : ByteArray := ⟨l.toArray⟩
theorem str_list (l : List UInt8) : (str l).data.toList = l := rfl
theorem str_size (l : List UInt8) : (str l).size = l.length := by simp [str, ByteArray.size]
theorem str_of (s : ByteArray) : str s.data.toList = s := by cases s; simp [str]
theorem bytes_ext {a b : ByteArray} (h : a.data.toList = b.data.toList) : a = b := by rw [<- str_of a, <- str_of b, h]
theorem size_list (s : ByteArray) : s.data.toList.length = s.size := Array.length_toList

/-- Bytes as cells. -/
def B8 (l : List UInt8) : List Value := l.map fun b => .int .u8 b.toNat
theorem B8_length (l : List UInt8) : (B8 l).length = l.length := by simp [B8]
theorem B8_append (a b : List UInt8) : B8 (a ++ b) = B8 a ++ B8 b := by simp [B8]
theorem B8_cells (l : List UInt8) : ∀ u ∈ B8 l, u.oneCell' = true := by
 intro u hu
 simp only [B8, List.mem_map] at hu
 obtain ⟨b, _, rfl⟩ := hu
 rfl

theorem strOfNums_B8 (l : List UInt8) : strOfNums (l.map fun b => (b.toNat : Int)) = str l := by
 apply bytes_ext
 rw [strOfNums_data, str_list, List.map_map]
 conv => rhs; rw [<- List.map_id l]
 apply List.map_congr_left
 intro b _
 simp

theorem run_convert_own {P : Program} {w : World} {src dst e : TypeId} (hs : P.underlying src = some (.slice e)) (he : P.underlying e = some (.int .u8)) (hd : P.underlying dst = some .string)
  {base n : Nat} {v : Value} {l : List UInt8} (hown : w.ownsRow base e 1 v n (B8 l)) : (convert src dst v).run P w = .ok (.string (str l)) w := by
 rcases hown.2 with ⟨rfl, rfl⟩ | ⟨g, cap, cur, rfl, hb, hg, hn, hc, hsz, htake⟩
 ·have : l = [] := List.eq_nil_of_length_eq_zero (by simpa [B8_length] using hown.1)
  subst this
  exact run_convert_bytes_nil w src e hs he 0 0 dst hd
 ·have hl : l.length = n := by simpa [B8_length] using hown.1
  rw [<- strOfNums_B8]
  refine run_convert_bytes_arg w src e hs he g 0 n cap _ (by simpa using hl) (fun i hi => ?_) dst hd
  rw [cell_of_row w g (0 + i) cur e (0, 0) hg]
  have hcur : cur.toList[i]? = (B8 l)[i]? := by
   rw [<- htake, List.getElem?_take, if_pos (by omega)]
  rw [Nat.zero_add, <- Array.getElem?_toList, hcur]
  simp [B8, List.getD, List.getElem?_eq_getElem (show i < l.length by omega)]

theorem toNat_ofNat (n : Nat) (h : n < 256) : (UInt8.ofNat n).toNat = n := by
 rw [UInt8.toNat_ofNat']; omega

/-! ### Below, step by step, from the world in which the call began -/
theorem bel0 (a : World) : Below a.heap.size a a := Below.refl _ _
theorem belA {a W : World} (h : Below a.heap.size a W) (o : Obj) : Below a.heap.size a (W.alloc o) := h.alloc h.size o
theorem belN {a W w1 : World} (h : Below a.heap.size a W) (hb : Below W.heap.size W w1) : Below a.heap.size a w1 := h.trans (hb.mono h.size)
theorem keep1 {W w1 : World} {B : Nat} (hb : Below B W w1) {p : Addr} {x : Value} (hx : W.cell? p = some x) (hB : W.heap.size <= B := by simp) : w1.cell? p = some x := by
 have := World.block_lt_of_cell? _ _ hx
 rw [hb.cell (by omega)]; exact hx
theorem kp_ {W w1 : World} (hb : Below W.heap.size W w1) {p : Addr} {x : Value} (hx : W.cell? p = some x) : w1.cell? p = some x := keep1 hb hx (Nat.le_refl _)
theorem str0_size : (⟨#[]⟩ : ByteArray).size = 0 := rfl

/-- A number lies from one to another one. -/
def inI (x lo hi : Int) : Bool := decide (lo <= x) && decide (x <= hi)
theorem inI_true {x lo hi : Int} : inI x lo hi = true ↔ lo <= x /\ x <= hi := by simp [inI]
theorem inI_false {x lo hi : Int} : inI x lo hi = false ↔ ¬ (lo <= x /\ x <= hi) := by
 rw [<- inI_true]; cases inI x lo hi <;> simp

theorem byte_ex (x : Int) (k : Nat) (hx : x = k) (hk : k < 256) : ∃ b : UInt8, x = (b.toNat : Int) /\ Hid (b = UInt8.ofNat k) :=
 ⟨UInt8.ofNat k, by rw [toNat_ofNat k hk]; exact hx, rfl⟩

theorem and_mask (q : Int) (n k : Nat) (hn : n = 2 ^ k - 1) (hk : n < 9223372036854775808) (h0 : 0 <= q) (h1 : q < 9223372036854775808) : bits .and .i64 q n = q % ((2 ^ k : Nat) : Int) := by
 obtain ⟨m, rfl⟩ := Int.eq_ofNat_of_zero_le h0
 rw [i64_and_nat m n (by omega) hk, hn, Nat.and_two_pow_sub_one_eq_mod]
 rfl
theorem and_1 (q : Int) (h0 : 0 <= q) (h1 : q < 9223372036854775808) : bits .and .i64 q 1 = q % 2 := and_mask q 1 1 rfl (by omega) h0 h1
/-- The text of a number in groups of seven bits. -/
def varL (n : Nat) : List UInt8 := if n < 128 then [UInt8.ofNat n] else UInt8.ofNat (n % 128 + 128) :: varL (n / 128)
termination_by n
decreasing_by omega
def maxVar : Int := 562949953421311
/-- What Var gives. -/
def varB (n : Int) : ByteArray := if inI n 0 maxVar then str (varL n.toNat) else str []
/-- One bit of the sum. -/
def crcBit (c : Int) : Int := if c % 2 = 1 then bits .xor .i64 (c / 2) 2197175160 else c / 2
def crcIt : Nat -> Int -> Int
 | 0, c => c
 | k + 1, c => crcIt k (crcBit c)
def crcByte (c : Int) (b : UInt8) : Int := crcIt 8 (bits .xor .i64 c b.toNat)
def crcL (l : List UInt8) : Int := l.foldl crcByte 4294967295
def crcB (s : ByteArray) : Int := 4294967295 - crcL s.data.toList

theorem xor_bd (a b : Int) (ha : 0 <= a) (ha' : a < 4294967296) (hb : 0 <= b) (hb' : b < 4294967296) : 0 <= bits .xor .i64 a b /\ bits .xor .i64 a b < 4294967296 := by
 obtain ⟨a, rfl⟩ := Int.eq_ofNat_of_zero_le ha
 obtain ⟨b, rfl⟩ := Int.eq_ofNat_of_zero_le hb
 rw [i64_xor_nat a b (by omega) (by omega)]
 have : a ^^^ b < 2 ^ 32 := Nat.xor_lt_two_pow (by omega) (by omega)
 omega
theorem crcBit_bd (c : Int) (h0 : 0 <= c) (h1 : c < 4294967296) : 0 <= crcBit c /\ crcBit c < 4294967296 := by
 unfold crcBit
 split
 ·exact xor_bd _ _ (by omega) (by omega) (by omega) (by omega)
 ·omega
theorem crcIt_bd : ∀ (k : Nat) (c : Int), 0 <= c -> c < 4294967296 -> 0 <= crcIt k c /\ crcIt k c < 4294967296
 | 0, _, h0, h1 => ⟨h0, h1⟩
 | k + 1, c, h0, h1 => crcIt_bd k _ (crcBit_bd c h0 h1).1 (crcBit_bd c h0 h1).2
theorem crcByte_bd (c : Int) (b : UInt8) (h0 : 0 <= c) (h1 : c < 4294967296) : 0 <= crcByte c b /\ crcByte c b < 4294967296 := by
 have := b.toNat_lt
 have h := xor_bd c b.toNat h0 h1 (by omega) (by omega)
 exact crcIt_bd _ _ h.1 h.2
theorem foldl_bd : ∀ (l : List UInt8) (c : Int), 0 <= c -> c < 4294967296 -> 0 <= l.foldl crcByte c /\ l.foldl crcByte c < 4294967296
 | [], _, h0, h1 => ⟨h0, h1⟩
 | b :: l, c, h0, h1 => foldl_bd l _ (crcByte_bd c b h0 h1).1 (crcByte_bd c b h0 h1).2
theorem crcL_bd (l : List UInt8) : 0 <= crcL l /\ crcL l < 4294967296 := foldl_bd l _ (by omega) (by omega)
theorem crcB_bd (s : ByteArray) : 0 <= crcB s /\ crcB s < 4294967296 := by
 have := crcL_bd s.data.toList
 unfold crcB; omega
theorem take_snoc (s : ByteArray) (k : Nat) (h : k < s.size) : s.data.toList.take (k + 1) = s.data.toList.take k ++ [s[k]] := by
 rw [List.take_succ_eq_append_getElem (by simpa using h)]; rfl
theorem crcL_snoc (s : ByteArray) (k : Nat) (h : k < s.size) : crcL (s.data.toList.take (k + 1)) = crcByte (crcL (s.data.toList.take k)) s[k] := by
 rw [take_snoc s k h, crcL, List.foldl_append]; rfl
theorem crcIt_succ' : ∀ (k : Nat) (c : Int), crcIt (k + 1) c = crcBit (crcIt k c)
 | 0, _ => rfl
 | k + 1, c => crcIt_succ' k (crcBit c)
theorem take_all (s : ByteArray) (k : Nat) (h : s.size <= k) : s.data.toList.take k = s.data.toList := List.take_of_length_le (by rw [size_list]; exact h)

theorem Tryz.el_u8 : ElemOk Tryz.prog 22 5 (.int .u8 0) 1 1 := ⟨Tryz.underlying22, by kernel_rfl, rfl, by omega⟩

theorem within_any (a b c : Int) (w : World) :
  Calls Tryz.prog 67 #[.int .i64 a, .int .i64 b, .int .i64 c] w fun e w' => e = .returned (.bool (inI a b c)) /\ w = w' := by
 go_enter Tryz.func67, Tryz.ntmps67
 by_cases h1 : b <= a <;> by_cases h2 : a <= c
 all_goals
  go_wp2
  go_ret
  simp [inI, h1, h2]
theorem l1In_any (a b c : Int) (w : World) :
  Calls Tryz.prog 56 #[.int .i64 a, .int .i64 b, .int .i64 c] w fun e w' => e = .returned (.bool (inI a b c)) /\ w = w' := by
 go_enter Tryz.func56, Tryz.ntmps56
 by_cases h1 : b <= a <;> by_cases h2 : a <= c
 all_goals
  go_wp2
  go_ret
  simp [inI, h1, h2]

theorem ret_str {a b : ByteArray} (h : a = b) : Ending.returned (.string a) = .returned (.string b) := by rw [h]
theorem ret_int {k : IntKind} {a b : Int} (h : a = b) : Ending.returned (.int k a) = .returned (.int k b) := by rw [h]
theorem max_small {k : Nat} (h : k <= 1000000000) : k <= maxLen := by unfold maxLen; omega

theorem crc_impl (s : ByteArray) (hs : s.size <= 1000000000) (w : World) :
  Calls Tryz.prog 175 #[.string s] w fun e w' => e = .returned (.int .i64 (crcB s)) /\ w = w' := by
 go_enter Tryz.func175, Tryz.ntmps175
 go_wp2
 go_loop [3, 4] (fun c i => ∃ (k : Nat) (d : Int), k <= s.size /\ 0 <= d /\ d < 4294967296 /\ i = .int .i64 k /\ c = .int .i64 d /\ Hid (d = crcL (s.data.toList.take k))) (fun _ i => s.size - (intOf i).toNat)
 case atStart => exact ⟨0, 4294967295, Nat.zero_le _, by omega, by omega, rfl, rfl, rfl⟩
 case round =>
  obtain ⟨k, d, hk, hd0, hd1, rfl, rfl, hd⟩ := hrel
  by_cases hlt : k < s.size
  ·have hb := (s[k]'hlt).toNat_lt
   have hbd := xor_bd d s[k].toNat hd0 hd1 (by omega) (by omega)
   have H2 := Lib.hid (crcL_snoc s k hlt)
   go_wp2
   clear hd0 hd1
   obtain ⟨x0, hx0⟩ : ∃ x0, bits .xor .i64 d (s[k].toNat : Int) = x0 := ⟨_, rfl⟩
   rw [hx0] at hbd ⊢
   have Hx := Lib.hid hx0
   clear hx0
   go_loop [3, 18] (fun c j => ∃ (t : Nat) (d : Int), t <= 8 /\ 0 <= d /\ d < 4294967296 /\ j = .int .i64 t /\ c = .int .i64 d /\ Hid (d = crcIt t x0)) (fun _ j => 8 - (intOf j).toNat)
   case atStart => exact ⟨0, _, by omega, hbd.1, hbd.2, rfl, rfl, rfl⟩
   case round =>
    obtain ⟨t, d', ht, hd0, hd1, rfl, rfl, hd'⟩ := hrel
    clear hbd
    have a1 := and_1 d' hd0 (by omega)
    by_cases ht8 : t < 8
    ·have H3 := Lib.hid (crcIt_succ' t x0)
     have H4 := Lib.hid (crcBit_bd d' hd0 hd1)
     rcases (show d' % 2 = 0 ∨ d' % 2 = 1 by omega) with h2 | h2
     ·have tst : (bits BinOp.and IntKind.i64 d' 1 == 1) = false := by rw [a1, h2]; rfl
      have H5 := Lib.hid (show crcBit d' = d' / 2 by unfold crcBit; rw [if_neg (by omega)])
      clear a1 h2
      go_wp2
      go_round
      case rel => exact ⟨t + 1, d' / 2, by omega, by omega, by omega, by go_num, rfl, by show _ = _; rw [H3.out, <- hd'.out, H5.out]⟩
      case measure => simp [intOf]; omega
     ·have tst : (bits BinOp.and IntKind.i64 d' 1 == 1) = true := by rw [a1, h2]; rfl
      have H5 := Lib.hid (show crcBit d' = bits .xor .i64 (d' / 2) 2197175160 by unfold crcBit; rw [if_pos h2])
      clear a1 h2
      go_wp2
      go_round
      case rel => exact ⟨t + 1, _, by omega, by rw [<- H5.out]; exact H4.out.1, by rw [<- H5.out]; exact H4.out.2, by go_num, rfl, by show _ = _; rw [H3.out, <- hd'.out, H5.out]⟩
      case measure => simp [intOf]; omega
    ·obtain rfl : t = 8 := by omega
     clear a1
     go_wp2
     go_round
     case rel => exact ⟨k + 1, d', by omega, hd0, hd1, by go_num, rfl, by show _ = _; rw [H2.out, <- hd.out, hd'.out, crcByte, Hx.out]⟩
     case measure => simp [intOf]; omega
  ·go_wp2
   go_ret
   exact ⟨ret_int (by rw [hd.out, take_all s k (by omega)]; rfl), rfl⟩
theorem crc_spec (s : ByteArray) (hs : s.size <= 1000000000) (w : World) :
  Calls Tryz.prog 187 #[.string s] w fun e w' => e = .returned (.int .i64 (crcB s)) /\ w = w' := by
 go_enter Tryz.func187, Tryz.ntmps187
 go_wp2
 go_loop [3, 4] (fun c i => ∃ (k : Nat) (d : Int), k <= s.size /\ 0 <= d /\ d < 4294967296 /\ i = .int .i64 k /\ c = .int .i64 d /\ Hid (d = crcL (s.data.toList.take k))) (fun _ i => s.size - (intOf i).toNat)
 case atStart => exact ⟨0, 4294967295, Nat.zero_le _, by omega, by omega, rfl, rfl, rfl⟩
 case round =>
  obtain ⟨k, d, hk, hd0, hd1, rfl, rfl, hd⟩ := hrel
  by_cases hlt : k < s.size
  ·have hb := (s[k]'hlt).toNat_lt
   have hbd := xor_bd d s[k].toNat hd0 hd1 (by omega) (by omega)
   have H2 := Lib.hid (crcL_snoc s k hlt)
   go_wp2
   clear hd0 hd1
   obtain ⟨x0, hx0⟩ : ∃ x0, bits .xor .i64 d (s[k].toNat : Int) = x0 := ⟨_, rfl⟩
   rw [hx0] at hbd ⊢
   have Hx := Lib.hid hx0
   clear hx0
   go_loop [3, 5] (fun c j => ∃ (t : Nat) (d : Int), t <= 8 /\ 0 <= d /\ d < 4294967296 /\ j = .int .i64 t /\ c = .int .i64 d /\ Hid (d = crcIt t x0)) (fun _ j => 8 - (intOf j).toNat)
   case atStart => exact ⟨0, _, by omega, hbd.1, hbd.2, rfl, rfl, rfl⟩
   case round =>
    obtain ⟨t, d', ht, hd0, hd1, rfl, rfl, hd'⟩ := hrel
    clear hbd
    by_cases ht8 : t < 8
    ·have H3 := Lib.hid (crcIt_succ' t x0)
     have H4 := Lib.hid (crcBit_bd d' hd0 hd1)
     rcases (show d' % 2 = 0 ∨ d' % 2 = 1 by omega) with h2 | h2
     ·have tst : (d' % 2 == 1) = false := by rw [h2]; rfl
      have H5 := Lib.hid (show crcBit d' = d' / 2 by unfold crcBit; rw [if_neg (by omega)])
      clear h2
      go_wp2
      go_round
      case rel => exact ⟨t + 1, d' / 2, by omega, by omega, by omega, by go_num, rfl, by show _ = _; rw [H3.out, <- hd'.out, H5.out]⟩
      case measure => simp [intOf]; omega
     ·have tst : (d' % 2 == 1) = true := by rw [h2]; rfl
      have H5 := Lib.hid (show crcBit d' = bits .xor .i64 (d' / 2) 2197175160 by unfold crcBit; rw [if_pos h2])
      clear h2
      go_wp2
      go_round
      case rel => exact ⟨t + 1, _, by omega, by rw [<- H5.out]; exact H4.out.1, by rw [<- H5.out]; exact H4.out.2, by go_num, rfl, by show _ = _; rw [H3.out, <- hd'.out, H5.out]⟩
      case measure => simp [intOf]; omega
    ·obtain rfl : t = 8 := by omega
     go_wp2
     go_round
     case rel => exact ⟨k + 1, d', by omega, hd0, hd1, by go_num, rfl, by show _ = _; rw [H2.out, <- hd.out, hd'.out, crcByte, Hx.out]⟩
     case measure => simp [intOf]; omega
  ·go_wp2
   go_ret
   exact ⟨ret_int (by rw [hd.out, take_all s k (by omega)]; rfl), rfl⟩

theorem sub_list (s : ByteArray) (i j : Nat) : (s.extract i j).data.toList = (s.data.toList.take j).drop i := by
 rw [ByteArray.data_extract, Array.toList_extract, List.extract_eq_take_drop, List.drop_take]

theorem ret_two {a b c d : Int} (h : a = c) (h' : b = d) : Ending.returned (.tuple #[.int .i64 a, .int .i64 b]) = .returned (.tuple #[.int .i64 c, .int .i64 d]) := by rw [h, h']
def dropB (s : ByteArray) (k : Nat) : ByteArray := s.extract k s.size
theorem dropB_list (s : ByteArray) (k : Nat) : (dropB s k).data.toList = s.data.toList.drop k := by
 rw [dropB, sub_list, take_all s _ (Nat.le_refl _)]
theorem dropB_size (s : ByteArray) (k : Nat) : (dropB s k).size = s.size - k := by rw [<- size_list, dropB_list, List.length_drop, size_list]
theorem grown_refl (w : World) (row : Option Nat) : w.grownBy w row := World.grownBy.refl w row

/-- Numbers as cells. -/
def I64 (l : List Nat) : List Value := l.map fun (n : Nat) => .int .i64 (n : Int)
theorem I64_append (a b : List Nat) : I64 (a ++ b) = I64 a ++ I64 b := by simp [I64]
theorem I64_cells (l : List Nat) : ∀ u ∈ I64 l, u.oneCell' = true := by
 intro u hu
 simp only [I64, List.mem_map] at hu
 obtain ⟨b, _, rfl⟩ := hu
 rfl
theorem Tryz.el_int : ElemOk Tryz.prog 73 3 (.int .i64 0) 1 8 := ⟨Tryz.underlying73, by kernel_rfl, rfl, by omega⟩

theorem Blk.get {w : World} {g : Nat} {t : TypeId} {cs : Array Value} {x : Value} (h : Blk w g t cs) (i : Nat) (hx : cs[i]? = some x) : w.cell? ⟨g, i, none⟩ = some x := (h.cell i).trans hx
section
variable {w : World} {g : Nat} {t : TypeId} {a0 a1 a2 a3 a4 a5 a6 a7 a8 : Value}
theorem Blk.g3 (h : Blk w g t #[a0, a1, a2]) : w.cell? ⟨g, 0, none⟩ = some a0 /\ w.cell? ⟨g, 1, none⟩ = some a1 /\ w.cell? ⟨g, 2, none⟩ = some a2 := ⟨h.get 0 rfl, h.get 1 rfl, h.get 2 rfl⟩
theorem Blk.g9 (h : Blk w g t #[a0, a1, a2, a3, a4, a5, a6, a7, a8]) : w.cell? ⟨g, 0, none⟩ = some a0 /\ w.cell? ⟨g, 1, none⟩ = some a1 /\ w.cell? ⟨g, 2, none⟩ = some a2 /\ w.cell? ⟨g, 3, none⟩ = some a3 /\ w.cell? ⟨g, 4, none⟩ = some a4 /\
    w.cell? ⟨g, 5, none⟩ = some a5 /\ w.cell? ⟨g, 6, none⟩ = some a6 /\ w.cell? ⟨g, 7, none⟩ = some a7 /\ w.cell? ⟨g, 8, none⟩ = some a8 :=
  ⟨h.get 0 rfl, h.get 1 rfl, h.get 2 rfl, h.get 3 rfl, h.get 4 rfl, h.get 5 rfl, h.get 6 rfl, h.get 7 rfl, h.get 8 rfl⟩
theorem Blk.g2 (h : Blk w g t #[a0, a1]) : w.cell? ⟨g, 0, none⟩ = some a0 /\ w.cell? ⟨g, 1, none⟩ = some a1 := ⟨h.get 0 rfl, h.get 1 rfl⟩
theorem Blk.f2 {cs : Array Value} (h : Blk w g t cs) : w.frozen? ⟨g, 0, none⟩ = false /\ w.frozen? ⟨g, 1, none⟩ = false := ⟨h.frozen 0, h.frozen 1⟩
theorem Blk.g4 (h : Blk w g t #[a0, a1, a2, a3]) : w.cell? ⟨g, 0, none⟩ = some a0 /\ w.cell? ⟨g, 1, none⟩ = some a1 /\ w.cell? ⟨g, 2, none⟩ = some a2 /\ w.cell? ⟨g, 3, none⟩ = some a3 := ⟨h.get 0 rfl, h.get 1 rfl, h.get 2 rfl, h.get 3 rfl⟩
theorem Blk.f4 {cs : Array Value} (h : Blk w g t cs) : w.frozen? ⟨g, 0, none⟩ = false /\ w.frozen? ⟨g, 1, none⟩ = false /\ w.frozen? ⟨g, 2, none⟩ = false /\ w.frozen? ⟨g, 3, none⟩ = false := ⟨h.frozen 0, h.frozen 1, h.frozen 2, h.frozen 3⟩
theorem Blk.g5 (h : Blk w g t #[a0, a1, a2, a3, a4]) : w.cell? ⟨g, 0, none⟩ = some a0 /\ w.cell? ⟨g, 1, none⟩ = some a1 /\ w.cell? ⟨g, 2, none⟩ = some a2 /\ w.cell? ⟨g, 3, none⟩ = some a3 /\ w.cell? ⟨g, 4, none⟩ = some a4 := ⟨h.get 0 rfl, h.get 1 rfl, h.get 2 rfl, h.get 3 rfl, h.get 4 rfl⟩
theorem Blk.f5 {cs : Array Value} (h : Blk w g t cs) : w.frozen? ⟨g, 0, none⟩ = false /\ w.frozen? ⟨g, 1, none⟩ = false /\ w.frozen? ⟨g, 2, none⟩ = false /\ w.frozen? ⟨g, 3, none⟩ = false /\ w.frozen? ⟨g, 4, none⟩ = false := ⟨h.frozen 0, h.frozen 1, h.frozen 2, h.frozen 3, h.frozen 4⟩
theorem Blk.g6 (h : Blk w g t #[a0, a1, a2, a3, a4, a5]) : w.cell? ⟨g, 0, none⟩ = some a0 /\ w.cell? ⟨g, 1, none⟩ = some a1 /\ w.cell? ⟨g, 2, none⟩ = some a2 /\ w.cell? ⟨g, 3, none⟩ = some a3 /\ w.cell? ⟨g, 4, none⟩ = some a4 /\ w.cell? ⟨g, 5, none⟩ = some a5 := ⟨h.get 0 rfl, h.get 1 rfl, h.get 2 rfl, h.get 3 rfl, h.get 4 rfl, h.get 5 rfl⟩
theorem Blk.f6 {cs : Array Value} (h : Blk w g t cs) : w.frozen? ⟨g, 0, none⟩ = false /\ w.frozen? ⟨g, 1, none⟩ = false /\ w.frozen? ⟨g, 2, none⟩ = false /\ w.frozen? ⟨g, 3, none⟩ = false /\ w.frozen? ⟨g, 4, none⟩ = false /\ w.frozen? ⟨g, 5, none⟩ = false := ⟨h.frozen 0, h.frozen 1, h.frozen 2, h.frozen 3, h.frozen 4, h.frozen 5⟩
theorem Blk.f3 {cs : Array Value} (h : Blk w g t cs) : w.frozen? ⟨g, 0, none⟩ = false /\ w.frozen? ⟨g, 1, none⟩ = false /\ w.frozen? ⟨g, 2, none⟩ = false := ⟨h.frozen 0, h.frozen 1, h.frozen 2⟩
theorem Blk.f9 {cs : Array Value} (h : Blk w g t cs) : w.frozen? ⟨g, 0, none⟩ = false /\ w.frozen? ⟨g, 1, none⟩ = false /\ w.frozen? ⟨g, 2, none⟩ = false /\ w.frozen? ⟨g, 3, none⟩ = false /\ w.frozen? ⟨g, 4, none⟩ = false /\
    w.frozen? ⟨g, 5, none⟩ = false /\ w.frozen? ⟨g, 6, none⟩ = false /\ w.frozen? ⟨g, 7, none⟩ = false /\ w.frozen? ⟨g, 8, none⟩ = false :=
  ⟨h.frozen 0, h.frozen 1, h.frozen 2, h.frozen 3, h.frozen 4, h.frozen 5, h.frozen 6, h.frozen 7, h.frozen 8⟩
end

/-- The nine cells of an empty book. -/
abbrev zB_ : Array Value := #[.slice none 0 0, .slice none 0 0, .slice none 0 0, .slice none 0 0, .int .i64 0, .int .i64 0, .int .i64 0, .int .i64 0, .int .i64 0]

theorem pT_ {α : Type _} {l : List α} {i : Nat} {a : α} : l.toArray.setIfInBounds i a = (l.set i a).toArray := List.setIfInBounds_toArray l i a
theorem pZ_ {α : Type _} {x : α} {xs : List α} {a : α} : (x :: xs).set 0 a = a :: xs := List.set_cons_zero
theorem pS_ {α : Type _} {x : α} {xs : List α} {n : Nat} {a : α} : (x :: xs).set (n + 1) a = x :: xs.set n a := List.set_cons_succ
theorem gT_ {α : Type _} {l : List α} {i : Nat} : l.toArray[i]? = l[i]? := List.getElem?_toArray
theorem gZ_ {α : Type _} {x : α} {xs : List α} : (x :: xs)[0]? = some x := List.getElem?_cons_zero
theorem gS_ {α : Type _} {x : α} {xs : List α} {n : Nat} : (x :: xs)[n + 1]? = xs[n]? := List.getElem?_cons_succ
section
variable {P : Program} {ops : Array Oper} {Q : Exit -> Act -> World -> Prop} {md : Region.Mode} {S : World -> Prop}
theorem tkV_ (i : Nat) {oi : Oper} {v : Value} {fuel : Nat} {listed : Array Bool} {a : Act} {w : World} (hy : YieldsIf P ops S oi v a) (hS : S w)
    (h : wpAnyH P md ops Q S fuel (listed.setIfInBounds i true) (a.put oi.dst v) w)
    (hi : ops[i]? = some oi := by (conv => lhs; simp only [gT_, gZ_, gS_]); try exact rfl)
    (hs : Region.noSelect ops = true := by kernel_rfl) (hf : Region.free md ops listed i = true := by kernel_rfl) (hr : (Region.ready md ops listed).contains i = true := by kernel_rfl)
    (hQ : ∀ c a w, Q (.panic c) (a.put oi.dst v) w -> Q (.panic c) a w := by exact fun _ _ _ h => h) : wpAnyH P md ops Q S (fuel + 1) listed a w := wpAnyH_take hi hs hf hr hQ hy hS h
theorem tkU_ (i : Nat) {oi : Oper} {fuel : Nat} {listed : Array Bool} {a : Act} {w : World} (hS : S w)
    (h : wpAnyH P md ops Q S fuel (listed.setIfInBounds i true) (a.put oi.dst undef) w)
    (hi : ops[i]? = some oi := by (conv => lhs; simp only [gT_, gZ_, gS_]); try exact rfl)
    (hs : Region.noSelect ops = true := by kernel_rfl) (hf : Region.free md ops listed i = true := by kernel_rfl) (hr : (Region.ready md ops listed).contains i = true := by kernel_rfl)
    (hQ : ∀ c a w, Q (.panic c) (a.put oi.dst undef) w -> Q (.panic c) a w := by exact fun _ _ _ h => h) (hy : YieldsIf P ops S oi undef a := by exact Or.inr ⟨by rfl, rfl⟩) :
    wpAnyH P md ops Q S (fuel + 1) listed a w := wpAnyH_take hi hs hf hr hQ hy hS h
theorem tkW_ (i : Nat) {oi : Oper} {v : Value} {fuel : Nat} {listed : Array Bool} {a a' : Act} {w : World}
    (h : wpAnyH P md ops Q S fuel (listed.setIfInBounds i true) a' w)
    (hi : ops[i]? = some oi := by (conv => lhs; simp only [gT_, gZ_, gS_]); try exact rfl)
    (hs : Region.noSelect ops = true := by kernel_rfl) (hf : Region.free md ops listed i = true := by kernel_rfl) (hr : (Region.ready md ops listed).contains i = true := by kernel_rfl)
    (hS : S w := by assumption) (hy : YieldsIf P ops S oi v a := by (refine Or.inl ⟨by rfl, ?_⟩; intro w hSw; (try dsimp only at hSw); go_simp; (try with_reducible rfl)))
    (ha : a.put oi.dst v = a' := by (conv => lhs; simp only [Act.put, pT_, pZ_, pS_]); try exact rfl)
    (hQ : ∀ c a w, Q (.panic c) (a.put oi.dst v) w -> Q (.panic c) a w := by exact fun _ _ _ h => h) : wpAnyH P md ops Q S (fuel + 1) listed a w := wpAnyH_take hi hs hf hr hQ hy hS (ha ▸ h)
theorem tkX_ (i : Nat) {oi : Oper} {fuel : Nat} {listed : Array Bool} {a a' : Act} {w : World}
    (h : wpAnyH P md ops Q S fuel (listed.setIfInBounds i true) a' w)
    (hi : ops[i]? = some oi := by (conv => lhs; simp only [gT_, gZ_, gS_]); try exact rfl)
    (hs : Region.noSelect ops = true := by kernel_rfl) (hf : Region.free md ops listed i = true := by kernel_rfl) (hr : (Region.ready md ops listed).contains i = true := by kernel_rfl)
    (hS : S w := by assumption) (ha : a.put oi.dst undef = a' := by (conv => lhs; simp only [Act.put, pT_, pZ_, pS_]); try exact rfl)
    (hQ : ∀ c a w, Q (.panic c) (a.put oi.dst undef) w -> Q (.panic c) a w := by exact fun _ _ _ h => h) (hy : YieldsIf P ops S oi undef a := by exact Or.inr ⟨by rfl, rfl⟩) :
    wpAnyH P md ops Q S (fuel + 1) listed a w := wpAnyH_take hi hs hf hr hQ hy hS (ha ▸ h)
theorem rd1_ (i : Nat) {o : Oper} {fuel : Nat} {listed : Array Bool} {a : Act} {w : World}
    (h : ∀ K' : Act -> World -> Prop, Shut (∀ a w, S w -> (S w -> wpAnyH P md ops Q S fuel (listed.setIfInBounds i true) a w) -> K' a w) -> if Region.wanted o (yielded ops a.tmps) = true then Oper.wp P o a w K' Q else K' (a.put o.dst undef) w)
    (ho : ops[i]? = some o := by (conv => lhs; simp only [gT_, gZ_, gS_]); try exact rfl) (hr : Region.ready md ops listed = [i] := by kernel_rfl) : wpAnyH P md ops Q S (fuel + 1) listed a w :=
  wpAnyH_ready hr (by simp) (AllReadyH.cons ho h AllReadyH.nil)
theorem rd2_ (i j : Nat) {o o2 : Oper} {fuel : Nat} {listed : Array Bool} {a : Act} {w : World}
    (h : ∀ K' : Act -> World -> Prop, Shut (∀ a w, S w -> (S w -> wpAnyH P md ops Q S fuel (listed.setIfInBounds i true) a w) -> K' a w) -> if Region.wanted o (yielded ops a.tmps) = true then Oper.wp P o a w K' Q else K' (a.put o.dst undef) w)
    (h2 : ∀ K' : Act -> World -> Prop, Shut (∀ a w, S w -> (S w -> wpAnyH P md ops Q S fuel (listed.setIfInBounds j true) a w) -> K' a w) -> if Region.wanted o2 (yielded ops a.tmps) = true then Oper.wp P o2 a w K' Q else K' (a.put o2.dst undef) w)
    (ho : ops[i]? = some o := by (conv => lhs; simp only [gT_, gZ_, gS_]); try exact rfl) (ho2 : ops[j]? = some o2 := by (conv => lhs; simp only [gT_, gZ_, gS_]); try exact rfl) (hr : Region.ready md ops listed = [i, j] := by kernel_rfl) : wpAnyH P md ops Q S (fuel + 1) listed a w :=
  wpAnyH_ready hr (by simp) (AllReadyH.cons ho h (AllReadyH.cons ho2 h2 AllReadyH.nil))
end
theorem Blk.new' (w : World) (t : TypeId) (cs : Array Value) (g : Nat) (hg : g = w.heap.size := by simp) : Blk (w.alloc (.cells cs t)) g t cs := by subst hg; exact Blk.new w t cs
theorem Blk.put {w : World} {g : Nat} {t : TypeId} {cs : Array Value} (h : Blk w g t cs) (i : Nat) (u : Value) (cs' : Array Value) (hc : cs.setIfInBounds i u = cs') : Blk (w.setCell ⟨g, i, none⟩ u) g t cs' := hc ▸ h.set_ i u
theorem belG {a W w1 : World} {g : Nat} (h : Below a.heap.size a W) (hg : W.grownBy w1 (some g)) (hgb : a.heap.size <= g) : Below a.heap.size a w1 :=
 h.grown hg h.size (fun k hk => by injection hk with hk; omega)
theorem belC {a W : World} (h : Below a.heap.size a W) (g o : Nat) (hg : a.heap.size <= g) (u : Value) : Below a.heap.size a (W.setCell ⟨g, o, none⟩ u) := h.setCell (p := ⟨g, o, none⟩) hg u
theorem not_empty (s : ByteArray) (h : 0 < s.size) : s.toList.isEmpty = false := by
 rw [ByteArray.toList_eq]
 cases hl : s.data.toList with
 | nil => have := size_list s; rw [hl] at this; simp at this; omega
 | cons => rfl
theorem own_vals {w : World} {base : Nat} {e : TypeId} {size n : Nat} {v : Value} {xs : List Value} (h : w.ownsRow base e size v n xs) : ∃ A c, v = .slice A n c /\ n <= c /\ c <= maxLen /\ Reads w w.heap.size size A n xs := by
 rcases h.2 with ⟨rfl, rfl⟩ | ⟨g, cap, cur, rfl, _, _, hc, hm, _⟩
 ·exact ⟨none, 0, rfl, Nat.le_refl _, Nat.zero_le _, by have := h.1; simp at this; subst this; exact Reads.none_⟩
 ·exact ⟨_, cap, rfl, hc, hm, Reads.of_own h⟩
theorem own_some {w : World} {base : Nat} {e : TypeId} {size n g c : Nat} {xs : List Value} (h : w.ownsRow base e size (.slice (some ⟨g, 0, none⟩) n c) n xs) :
  base <= g /\ ∃ cur, w.heap[g]? = some (.cells cur e (0, 0)) /\ n <= c /\ c <= maxLen /\ cur.size = c * size /\ cur.toList.take (n * size) = xs := by
 rcases h.2 with ⟨h', _⟩ | ⟨g', cap, cur, h', hb, hg, hn, hc, hs, ht⟩
 ·cases h'
 ·simp only [Value.slice.injEq, Option.some.injEq, Addr.mk.injEq, and_true, true_and] at h'
  obtain ⟨rfl, rfl⟩ := h'
  exact ⟨hb, cur, hg, hn, hc, hs, ht⟩
theorem own_frozen {w : World} {base : Nat} {e : TypeId} {size n g c : Nat} {xs : List Value} (h : w.ownsRow base e size (.slice (some ⟨g, 0, none⟩) n c) n xs) (k : Nat) : w.frozen? ⟨g, k, none⟩ = false := by
 obtain ⟨_, cur, hg, _⟩ := own_some h
 simp [World.frozen?, hg]
theorem own_set {w : World} {base : Nat} {e : TypeId} {size n g c : Nat} {xs : List Value} (h : w.ownsRow base e size (.slice (some ⟨g, 0, none⟩) n c) n xs) (k : Nat) (u : Value) :
  (w.setCell ⟨g, k, none⟩ u).ownsRow base e size (.slice (some ⟨g, 0, none⟩) n c) n (xs.set k u) := by
 obtain ⟨hb, cur, hg, hn, hc, hs, ht⟩ := own_some h
 refine ⟨by rw [List.length_set]; exact h.1, .inr ⟨g, c, cur.setIfInBounds k u, rfl, hb, by simp [World.setCell, Array.getElem?_modify, hg], hn, hc, by simpa using hs, ?_⟩⟩
 rw [Array.toList_setIfInBounds, List.take_set, ht]
/-- The first so many of a row of one's own. -/
theorem own_pre {w : World} {base : Nat} {e : TypeId} {n g c : Nat} {xs : List Value} (h : w.ownsRow base e 1 (.slice (some ⟨g, 0, none⟩) n c) n xs) (m : Nat) (hm : m <= n) :
  w.ownsRow base e 1 (.slice (some ⟨g, 0, none⟩) m c) m (xs.take m) := by
 obtain ⟨hb, cur, hg, hn, hc, hs, ht⟩ := own_some h
 have h1 := h.1
 refine ⟨by rw [List.length_take]; omega, .inr ⟨g, c, cur, rfl, hb, hg, by omega, hc, hs, ?_⟩⟩
 rw [<- ht, List.take_take]; congr 1; omega
theorem own_form1 {w : World} {base : Nat} {e : TypeId} {size n : Nat} {v : Value} {xs : List Value} (h : w.ownsRow base e size v n xs) (hn : 0 < n) : ∃ g c, v = .slice (some ⟨g, 0, none⟩) n c := by
 obtain ⟨g, c, h1, _⟩ := h.form hn
 exact ⟨g, c, h1⟩
theorem only_sc {a w : World} {g : Nat} (h : a.grownBy w (some g)) (k : Nat) (u : Value) : a.grownBy (w.setCell ⟨g, k, none⟩ u) (some g) := only_setCell (p := ⟨g, k, none⟩) h (.inl rfl) u
theorem gb_below {a w w1 : World} {g : Nat} (h : a.grownBy w (some g)) (hb : Below w.heap.size w w1) : a.grownBy w1 (some g) :=
 ⟨hb.os.trans h.os, hb.tape.trans h.tape, hb.output.trans h.output, Nat.le_trans h.size hb.size, fun i hi hn => (hb.block i (Nat.lt_of_lt_of_le hi h.size)).trans (h.block i hi hn)⟩
theorem ret_bool {a b : Bool} (h : a = b) : Ending.returned (.bool a) = .returned (.bool b) := by rw [h]

end Go.Proofs.YtjjniapamdleoaaGreatDoor
