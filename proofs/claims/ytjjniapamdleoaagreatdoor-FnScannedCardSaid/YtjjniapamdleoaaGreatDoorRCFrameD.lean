/- The frame of a law's proof where the row lists the program's table of known signs. -/
import Derived.Test.YtjjniapamdleoaaGreatDoorCards
import Derived.Test.YtjjniapamdleoaaGreatDoorTie
import Derived.Test.YtjjniapamdleoaaGreatDoorRCFrame
import Derived.Test.YtjjniapamdleoaaGreatDoorRCSgn
import Derived.OpenShut
import Derived.Deep.DeepHandedRow
import Derived.Lib.LaidTab
import Derived.WalkSmall
namespace Go.Proofs.YtjjniapamdleoaaGreatDoor
open Go Go.RowKit Go.WideShapes Go.ChangeShapes Go.ChangeAt

theorem Tryz.gTab : Tryz.prog.globalNamed "loop.example/g00773/impl.knownParts" = some 0 := by kernel_rfl
theorem Tryz.gTabType : (Tryz.prog.globals[0]?).map (·.type) = some 160 := by kernel_rfl
theorem Tryz.cellsTab : Tryz.prog.cellsOf 160 = 54 := by kernel_rfl
theorem Tryz.cellsInt : Tryz.prog.cellsOf 3 = 1 := by kernel_rfl

/-- What the row's list gives: the world holds the table. -/
theorem tab_of {W : World} (h : laidMetH Tryz.prog [("loop.example/g00773/impl.knownParts", Rows.laid_loop_example_g00773_impl_knownParts)] W) : Tab W := by
 have h1 : Lib.TabIs Tryz.prog W "loop.example/g00773/impl.knownParts" .i64 knownTab :=
  Lib.tabIs_of_head (rest := []) Tryz.gTab Tryz.gTabType Tryz.underlying160 Tryz.underlying3 Tryz.cellsInt Tryz.cellsTab h
 have hc : ∀ i, i < 54 -> W.cell? ⟨0, i, none⟩ = some (.int .i64 (tabAt i)) := fun i hi => h1.cell Tryz.gTab i hi
 exact ⟨World.block_lt_of_cell? W _ (hc 0 (by omega)), hc⟩

section
variable {H : Type} {enc : TypeId × Value -> H} {P : Program}
theorem trodVars_stays (hl : laidOutB P = true) {W W' : World} (hb : Below W.heap.size W W') {sp : Nat -> Bool} : ∀ (ns : List String) (gs : List (DataW H)) (ps : List MemPlace),
  (∀ n ∈ ns, ∃ g t, P.globalNamed n = some g /\ (P.globals[g]?).map (·.type) = some t /\ P.readableRec t = true /\ t < P.types.size /\ g < W.heap.size) ->
  DataW.TrodVars enc P W (fun _ => true) ns gs ps -> (∀ x ∈ ps, x.block < W.heap.size) -> (∀ x ∈ ps, sp x.block = true) -> DataW.TrodVars enc P W' sp ns gs ps
 | [], [], _, _, h, _, _ => h
 | n :: ns, d :: ds, ps, hty, h, hlt, hsp => by
  obtain ⟨g, t, cs, fuel, p, q, h1, h2, h3, h4, h5, rfl⟩ := h
  obtain ⟨g', t', e1, e2, e3, e4, e5⟩ := hty n (by simp)
  obtain rfl := Option.some.inj (h1.symm.trans e1)
  obtain rfl := Option.some.inj (h2.symm.trans e2)
  refine ⟨g, t, cs, fuel, p, q, h1, h2, var?_below hb h1 e5 h3, ?_, trodVars_stays hl hb ns ds q (fun m hm => hty m (List.mem_cons_of_mem _ hm)) h5 (fun x hx => hlt x (by simp [hx])) (fun x hx => hsp x (by simp [hx])), rfl⟩
  exact DataW.trod_stays (kids_book hl e3) (book_sized e3) (fun h => by cases h) ⟨e4, book_self t⟩ h4 (fun x hx => hb.same (hlt x (by simp [hx]))) (fun x hx => hsp x (by simp [hx]))
 | [], _ :: _, _, _, h, _, _ => h.elim
 | _ :: _, [], _, _, h, _, _ => h.elim

/-- What a law leaves: it says true, and nothing that was there has turned. -/
theorem law_postD {f : Func} {s : ChangeSpec} {tb : TypeId} {W W' : World} {args : Array Value} {ds gs : List (DataW H)} {p : List MemPlace} (hl : laidOutB P = true)
  (hp : f.params.toList.all (fun t => P.readableRec t && decide (t < P.types.size)) = true) (hrt : f.resultTypes = #[tb]) (hbt : P.underlying tb = some .bool)
  (hv : ∀ n ∈ s.vars, ∃ g t, P.globalNamed n = some g /\ (P.globals[g]?).map (·.type) = some t /\ P.readableRec t = true /\ t < P.types.size /\ g < W.heap.size)
  (hfn : s.fn H (ds ++ gs) = { results := [.lit (.bool true)], args := ds, vars := gs })
  (hW : DataW.Whole enc P f.params.toList s.vars false W args.toList ds gs p) (hb : Below W.heap.size W W') : s.post enc P f false true false false W args (.bool true) W' := by
 have hlt : ∀ x ∈ p, x.block < W.heap.size := fun x hx => hW.lt x hx
 have hW0 := hW
 obtain ⟨p1, q1, hA, hV, rfl, hfz, hnd⟩ := hW
 refine ⟨ds, gs, p1 ++ q1, [], p1, q1, hW0, ?_, ?_, ?_, World.keptBut_mono (fun x hx => ⟨hx, .inr (by simpa using hx)⟩) (hb.frame (· ∈ p1 ++ q1)), fun h => by cases h⟩
 ·rw [hfn, hrt]
  exact trodAll_mk1 (shut_bool hbt true)
 ·rw [hfn]
  exact trodAll_stays hl hb _ _ _ _ hp hA (fun x hx => hlt x (by simp [hx])) (fun x hx => by simpa using hlt x (by simp [hx]))
 ·rw [hfn]
  exact trodVars_stays hl hb _ _ _ hv hV (fun x hx => hlt x (by simp [hx])) (fun x hx => by simpa using hlt x (by simp [hx]))
end

theorem Tryz.varsOk {W : World} (hT : Tab W) : ∀ n ∈ ["loop.example/g00773/impl.knownParts"], ∃ g t, Tryz.prog.globalNamed n = some g /\ (Tryz.prog.globals[g]?).map (·.type) = some t /\ Tryz.prog.readableRec t = true /\ t < Tryz.prog.types.size /\ g < W.heap.size := by
 intro n hn
 obtain rfl : n = "loop.example/g00773/impl.knownParts" := by simpa using hn
 exact ⟨0, 160, Tryz.gTab, Tryz.gTabType, by kernel_rfl, by exact of_decide_eq_true (by kernel_rfl), hT.pos⟩

/-- A world for the witness: the settled one, the table holding what its initialiser lays. -/
noncomputable def laidWorld (os : Os) (args : Array Value) : World :=
 { World.holding Tryz.prog os ⟨#[], args, []⟩ with heap := (World.holding Tryz.prog os ⟨#[], args, []⟩).heap.modify 0 fun
   | .cells _ t frozen => .cells (II knownTab).toArray t frozen
   | o => o }

end Go.Proofs.YtjjniapamdleoaaGreatDoor
