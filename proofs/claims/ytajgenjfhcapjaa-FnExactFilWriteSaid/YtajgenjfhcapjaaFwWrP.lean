/- Writing into a file, plainly. -/
import Derived.Test.YtajgenjfhcapjaaFwInto
namespace Go.Proofs.Ytajgenjfhcapjaa
open Go Go.RowKit

abbrev WSt := List Bool × List ByteArray × List ExtD
/-- The block in which the next bytes go, and what has been made for it. -/
def wrPick (i : Nat) (s : WSt) : Option (Nat × WSt) :=
  if 0 ≤ blockP s.2.2 i then some ((blockP s.2.2 i).toNat, s)
  else if findP s.1 < 0 then none
  else some ((findP s.1).toNat, (s.1.set (findP s.1).toNat true, s.2.1.set (findP s.1).toNat (zer 4), putP s.2.2 i (findP s.1).toNat))
def wrFrom (off i : Nat) : Nat := max off (i * 4)
def wrTo (e i : Nat) : Nat := min e ((i + 1) * 4)
def wrD (off : Nat) (data : ByteArray) (i : Nat) : ByteArray := data.extract (wrFrom off i - off) (wrTo (off + data.size) i - off)
def wrB (off : Nat) (data : ByteArray) (i : Nat) (ds : List ByteArray) (b : Nat) : List ByteArray := ds.set b (intoB (ds.getD b (str [])) (wrFrom off i - i * 4) (wrD off data i))
def wrStep (off : Nat) (data : ByteArray) (i : Nat) (s : WSt) : Option WSt := match wrPick i s with
  | none => none
  | some (b, s1) => some (s1.1, wrB off data i s1.2.1 b, s1.2.2)
def wrLoop (off : Nat) (data : ByteArray) : Nat → Nat → WSt → Option WSt
  | 0, _, s => some s
  | n + 1, i, s => match wrStep off data i s with
    | none => none
    | some s' => wrLoop off data n (i + 1) s'
/-- How many blocks are written. -/
def wrN (off : Nat) (data : ByteArray) : Nat := (off + data.size + 3) / 4 - off / 4
def wrRes (S : StoD) (F : FilD) (off : Nat) (data : ByteArray) : Option WSt → StoD × FilD × Bool
  | none => (S, F, false)
  | some s => (⟨s.1, s.2.1⟩, ⟨max F.sz ((off : Int) + (data.size : Int)), s.2.2⟩, true)
def wrOut (S : StoD) (F : FilD) (off : Nat) (data : ByteArray) : StoD × FilD × Bool := wrRes S F off data (wrLoop off data (wrN off data) (off / 4) (S.bs, S.ds, F.xs))
def writeP (S : StoD) (F : FilD) (off : Int) (data : ByteArray) : StoD × FilD × Bool :=
  if filOkB S F = true ∧ 0 ≤ off ∧ off ≤ 48 - (data.size : Int) then (if data.size = 0 then (S, F, true) else wrOut S F off.toNat data) else (S, F, false)
/-- What holds of the state all the way. -/
structure WI (s : WSt) : Prop where
  b : s.1.length = 24
  d : s.2.1.length = 24
  z : ∀ t ∈ s.2.1, t.size = 4
  x : s.2.2.length ≤ 10000000
theorem putP_len (xs : List ExtD) (i b : Nat) (h : xs.length ≤ 10000000) (hb : b < 24) : (putP xs i b).length ≤ 10000000 := by
  unfold putP
  split
  · simp
  · rename_i hE
    split
    · exact h
    · have hE' : extsOkB xs = true := by cases hh : extsOkB xs <;> simp_all
      have hm : ∀ x ∈ (flatP xs).set i (b : Int), -1 ≤ x ∧ x ≤ 23 := fun x hx => by
        rcases List.mem_or_eq_of_mem_set hx with h | h
        · exact flatP_bd (extsOk_all hE') x h
        · omega
      have := (accI _ hm _ (Nat.le_refl _)).len
      rw [List.length_set, flatP_len] at this
      unfold extP
      rw [List.length_set, flatP_len]
      omega
theorem WI.pick {s : WSt} (h : WI s) {i b : Nat} {s1 : WSt} (hp : wrPick i s = some (b, s1)) : b < 24 ∧ WI s1 := by
  have hb1 := blockP_bd s.2.2 i
  have hb2 := findP_bd s.1
  unfold wrPick at hp
  split at hp
  · simp only [Option.some.injEq, Prod.mk.injEq] at hp
    obtain ⟨rfl, rfl⟩ := hp
    exact ⟨by omega, h⟩
  · split at hp
    · cases hp
    · simp only [Option.some.injEq, Prod.mk.injEq] at hp
      obtain ⟨rfl, rfl⟩ := hp
      refine ⟨by omega, ⟨by simp [h.b], by simp [h.d], fun t ht => ?_, putP_len _ _ _ h.x (by omega)⟩⟩
      rcases List.mem_or_eq_of_mem_set ht with ht | ht
      · exact h.z t ht
      · rw [ht, zer_size]
theorem wrD_size {off i : Nat} {data : ByteArray} (h1 : off < (i + 1) * 4) (h2 : i * 4 < off + data.size) : wrFrom off i - i * 4 + (wrD off data i).size ≤ 4 := by
  unfold wrD wrFrom wrTo
  rw [ByteArray.size_extract]
  omega
theorem WI.wr {s : WSt} (h : WI s) {off i b : Nat} {data : ByteArray} (hb : b < 24) (h1 : off < (i + 1) * 4) (h2 : i * 4 < off + data.size) : WI (s.1, wrB off data i s.2.1 b, s.2.2) := by
  refine ⟨h.b, by unfold wrB; simp [h.d], fun t ht => ?_, h.x⟩
  unfold wrB at ht
  rcases List.mem_or_eq_of_mem_set ht with ht | ht
  · exact h.z t ht
  · have hz : (s.2.1.getD b (str [])).size = 4 := by
      rw [List.getD_eq_getElem?_getD, List.getElem?_eq_getElem (by rw [h.d]; exact hb)]
      exact h.z _ (List.getElem_mem _)
    rw [ht, intoB_size (by rw [hz]; exact wrD_size h1 h2), hz]
theorem wrPick_old {i b : Nat} {s : WSt} (h : blockP s.2.2 i = (b : Int)) : wrPick i s = some (b, s) := by
  unfold wrPick
  rw [h, if_pos (by omega), Int.toNat_natCast]
theorem wrPick_no {i : Nat} {s : WSt} (h : blockP s.2.2 i < 0) (h2 : findP s.1 < 0) : wrPick i s = none := by
  unfold wrPick
  rw [if_neg (by omega), if_pos h2]
theorem wrPick_new {i b : Nat} {s : WSt} (h : blockP s.2.2 i < 0) (h2 : findP s.1 = (b : Int)) : wrPick i s = some (b, (s.1.set b true, s.2.1.set b (zer 4), putP s.2.2 i b)) := by
  unfold wrPick
  rw [if_neg (by omega), h2, if_neg (by omega), Int.toNat_natCast]
theorem wrLoop_none {off i n : Nat} {data : ByteArray} {s : WSt} (h : wrPick i s = none) : wrLoop off data (n + 1) i s = none := by
  unfold wrLoop wrStep; rw [h]
theorem wrLoop_some {off i n b : Nat} {data : ByteArray} {s s1 : WSt} (h : wrPick i s = some (b, s1)) : wrLoop off data (n + 1) i s = wrLoop off data n (i + 1) (s1.1, wrB off data i s1.2.1 b, s1.2.2) := by
  conv => lhs; unfold wrLoop wrStep
  rw [h]
theorem wrB_get {off i b : Nat} {data : ByteArray} {ds : List ByteArray} (h : b < ds.length) : wrB off data i ds b = ds.set b (intoB ds[b] (wrFrom off i - i * 4) (wrD off data i)) := by
  unfold wrB
  rw [List.getD_eq_getElem?_getD, List.getElem?_eq_getElem h]; rfl

end Go.Proofs.Ytajgenjfhcapjaa
