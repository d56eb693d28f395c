/- The place of an entry in a page: slices.IndexFunc with PgDrop's closure. -/
import Derived.Test.YtbchbmcphbeikaaGreatDoorPgOk
import Derived.BigQuiet
namespace Go.Proofs.YtbchbmcphbeikaaGreatDoor
open Go Go.RowKit

def IdxPg (ds : List EntD) (p : EntD → Bool) (r : Int) : Prop := (r = -1 ∧ ds.find? p = none) ∨ ∃ k, ∃ hk : k < ds.length, r = (k : Int) ∧ ds.find? p = some ds[k]

set_option maxRecDepth 100000 in
set_option maxHeartbeats 2000000 in
theorem indexFunc_pgDrop (p : EntD → Bool) (cap cap2 : Value) (A : Option Addr) (n c : Nat) (ds : List EntD) (hn : n ≤ 9223372036854775807) (w : World) (hr : Reads w w.heap.size 4 A n (ES ds))
    (hcl : ∀ W, Below w.heap.size w W → ∀ e ∈ ds, Calls Tryz.prog 65 #[.agg #[.int .i64 e.h, .int .i64 e.i, .string e.s, .int .i64 e.d], cap, cap2] W fun r w' => r = .returned (.bool (p e)) ∧ Below W.heap.size W w') :
    Calls Tryz.prog 64 #[.slice A n c, .func (.func 65) #[] #[cap, cap2]] w fun e w' => ∃ r : Int, e = .returned (.int .i64 r) ∧ IdxPg ds p r ∧ Below w.heap.size w w' := by
  have hl : ds.length = n := by have := hr.1; rw [ES_length] at this; omega
  have Hr := Lib.hid hr
  have HL := Lib.hid hl
  have Hcl := Lib.hid hcl
  clear hr hl hcl
  go_enter Tryz.func64, Tryz.ntmps64
  go_wp2
  go_loopw [8] (fun i wr => ∃ (k : Nat), k ≤ n ∧ i = .int .i64 k ∧ Hid ((ds.take k).find? p = none) ∧ Below w.heap.size w wr)
    (fun i _ => n - (intOf i).toNat)
  case atStart => exact ⟨0, by omega, rfl, by simp [Hid], bel0 w⟩
  case round =>
    obtain ⟨k, hk, rfl, hnone, hbel⟩ := hrel
    by_cases hlt : k < n
    · obtain ⟨hkx, b, o, rfl, hadb, z0, z1, z2, z3⟩ := reads_ent (Hr.out.below hbel) hlt
      have q0 : (0 : Int) ≤ ↑k := by omega
      have q1 : (↑k : Int) < ↑n := by omega
      have hts := Lib.hid (List.take_succ_eq_append_getElem hkx)
      have hdr := Lib.hid (show ds = ds.take k ++ ds[k] :: ds.drop (k + 1) by rw [← List.drop_eq_getElem_cons hkx, List.take_append_drop])
      have hck := Lib.hid (Hcl.out wr hbel ds[k] (List.getElem_mem hkx))
      obtain ⟨e, he⟩ : ∃ e, ds[k] = e := ⟨_, rfl⟩
      have He := Lib.hid he
      rw [he] at z0 z1 z2 z3 hts hdr hck
      clear he
      rcases hp : p e with _ | _
      · have Hm := Lib.hid (find_miss (p := p) hnone.out hp)
        have Hp := Lib.hid hp
        clear hp
        go_wp2_with fail
        refine hck.out.mono ?_
        rintro r w2 ⟨rfl, hb2⟩
        rw [Hp.out]
        go_wp2
        go_roundw
        case rel => exact ⟨k + 1, by omega, by go_num, by show _ = _; rw [hts.out]; exact Hm.out, belN hbel hb2⟩
        case measure => simp [intOf]; omega
      · have Hf := Lib.hid (show ds.find? p = some e by rw [hdr.out]; exact find_hit (p := p) hnone.out hp)
        have Hp := Lib.hid hp
        clear hp
        go_wp2_with fail
        refine hck.out.mono ?_
        rintro r w2 ⟨rfl, hb2⟩
        rw [Hp.out]
        go_wp2
        go_ret
        exact ⟨_, rfl, .inr ⟨k, hkx, rfl, by rw [Hf.out, He.out]⟩, belN hbel hb2⟩
    · have Hf := Lib.hid (show ds.find? p = none by have := hnone.out; rwa [List.take_of_length_le (by have := HL.out; omega)] at this)
      go_wp2
      go_ret
      exact ⟨_, rfl, .inl ⟨rfl, Hf.out⟩, hbel⟩


set_option maxRecDepth 100000 in
set_option maxHeartbeats 1000000 in
theorem pgDrop_clo (bx bY : Nat) (x y : Int) (eh ei : Int) (es : ByteArray) (ed : Int) (W : World) (hx : W.cell? ⟨bx, 0, none⟩ = some (.int .i64 x)) (hy : W.cell? ⟨bY, 0, none⟩ = some (.int .i64 y)) :
    Calls Tryz.prog 65 #[.agg #[.int .i64 eh, .int .i64 ei, .string es, .int .i64 ed], .pointer (some ⟨bx, 0, none⟩), .pointer (some ⟨bY, 0, none⟩)] W fun r w' => r = .returned (.bool (isAt x y ⟨eh, ei, es, ed⟩)) ∧ Below W.heap.size W w' := by
  have lx := World.block_lt_of_cell? _ _ hx
  have ly := World.block_lt_of_cell? _ _ hy
  simp only at lx ly
  have hb := belA (bel0 W) (.cells #[.int .i64 eh, .int .i64 ei, .string es, .int .i64 ed] 40)
  have hx1 : (W.alloc (.cells #[.int .i64 eh, .int .i64 ei, .string es, .int .i64 ed] 40)).cell? ⟨bx, 0, none⟩ = some (.int .i64 x) := by rw [World.cell?_alloc_lt _ _ _ lx]; exact hx
  have hy1 : (W.alloc (.cells #[.int .i64 eh, .int .i64 ei, .string es, .int .i64 ed] 40)).cell? ⟨bY, 0, none⟩ = some (.int .i64 y) := by rw [World.cell?_alloc_lt _ _ _ ly]; exact hy
  have R1 := Blk.new' W 40 #[.int .i64 eh, .int .i64 ei, .string es, .int .i64 ed] W.heap.size rfl
  have x0 := R1.get (x := .int .i64 eh) 0 rfl
  have x1 := R1.get (x := .int .i64 ei) 1 rfl
  have HI := Lib.hid (show isAt x y ⟨eh, ei, es, ed⟩ = (eh == x && ei == y) from rfl)
  rw [HI.out]
  cases h1 : (eh == x)
  all_goals
    cases h2 : (ei == y)
    all_goals
      go_enter Tryz.func65, Tryz.ntmps65
      go_wp2
      go_ret
      exact ⟨rfl, hb⟩

end Go.Proofs.YtbchbmcphbeikaaGreatDoor
