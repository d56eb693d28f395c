/- The first free bit: runs of both sides. -/
import Derived.Test.YtajgenjfhcapjaaFwMrk
import Derived.BigQuiet
namespace Go.Proofs.Ytajgenjfhcapjaa
open Go Go.RowKit

abbrev RunD := Int × Int
def runCells (r : RunD) : List Value := [.int .i64 r.1, .int .i64 r.2]
def RS (l : List RunD) : List Value := l.flatMap runCells
theorem RS_cons (e : RunD) (l : List RunD) : RS (e :: l) = .int .i64 e.1 :: .int .i64 e.2 :: RS l := rfl
theorem RS_append (a b : List RunD) : RS (a ++ b) = RS a ++ RS b := by simp [RS]
theorem RS_length (l : List RunD) : (RS l).length = l.length * 2 := by
  induction l with
  | nil => rfl
  | cons e l ih => rw [RS_cons]; simp [ih]; omega
theorem RS_get : ∀ (l : List RunD) (k : Nat) (h : k < l.length), (RS l)[k * 2]? = some (.int .i64 l[k].1) ∧ (RS l)[k * 2 + 1]? = some (.int .i64 l[k].2)
  | e :: l, 0, _ => ⟨rfl, rfl⟩
  | e :: l, k + 1, h => by
    have := RS_get l k (by simpa using h)
    rw [RS_cons, show (k + 1) * 2 = k * 2 + 1 + 1 by omega]
    simpa using this
theorem RS_cells (l : List RunD) : ∀ u ∈ RS l, u.oneCell' = true := by
  induction l with
  | nil => intro u hu; cases hu
  | cons e l ih =>
    intro u hu
    rw [RS_cons] at hu
    simp only [List.mem_cons] at hu
    rcases hu with rfl | rfl | hu
    · rfl
    · rfl
    · exact ih u hu
theorem RS_bump (ps : List RunD) (r : RunD) (x : Int) : (RS (ps ++ [r])).set (ps.length * 2 + 1) (.int .i64 x) = RS (ps ++ [(r.1, x)]) := by
  rw [RS_append, RS_append, List.set_append_right _ _ (by rw [RS_length]; omega), RS_length, show ps.length * 2 + 1 - ps.length * 2 = 1 by omega]
  rfl
theorem reads_run {w : World} {B n : Nat} {A : Option Addr} {xs : List RunD} (h : Reads w B 2 A n (RS xs)) {k : Nat} (hk : k < n) :
    ∃ (hk' : k < xs.length) (b o : Nat), A = some ⟨b, o, none⟩ ∧ b < B ∧ w.cell? ⟨b, o + k * 2, none⟩ = some (.int .i64 xs[k].1) ∧ w.cell? ⟨b, o + k * 2 + 1, none⟩ = some (.int .i64 xs[k].2) := by
  have hl : k < xs.length := by have := h.1; rw [RS_length] at this; omega
  obtain ⟨ad, rfl, hb, hc⟩ := h.2 (by omega)
  obtain ⟨h0, h1⟩ := RS_get xs k hl
  have z0 := hc _ _ h0
  have z1 := hc _ _ h1
  obtain ⟨h00, _⟩ := RS_get xs 0 (by omega)
  have z00 := hc 0 _ h00
  obtain ⟨b, o, hbo⟩ := flat_addrX z00
  have hbo' : ad = ⟨b, o, none⟩ := by rw [← hbo]; simp [Addr.add]
  subst hbo'
  have ha : ∀ j, (Addr.add ⟨b, o, none⟩ j) = ⟨b, o + j, none⟩ := fun j => by unfold Addr.add; split <;> simp_all
  rw [ha] at z0 z1
  exact ⟨hl, b, o, rfl, hb, z0, by rw [show o + k * 2 + 1 = o + (k * 2 + 1) by omega]; exact z1⟩
theorem Try.el_run : ElemOk Try.prog 68 71 (.agg #[.int .i64 0, .int .i64 0]) 2 16 := ⟨Try.underlying68, by kernel_rfl, rfl, by omega⟩

/-- The first place that is free. -/
def FirstF (bs : List Bool) (k : Nat) : Prop := ∃ h : k < bs.length, bs[k] = false ∧ ∀ (j : Nat) (hj : j < k), bs[j] = true
def findP (bs : List Bool) : Int := if bs.length = 24 then (if bs.findIdx (fun b => !b) < 24 then (bs.findIdx (fun b => !b) : Int) else -1) else -1
theorem findP_first {bs : List Bool} {k : Nat} (h24 : bs.length = 24) (h : FirstF bs k) : findP bs = k := by
  obtain ⟨hk, h0, h1⟩ := h
  have : bs.findIdx (fun b => !b) = k := by
    rw [List.findIdx_eq hk]
    exact ⟨by rw [h0]; rfl, fun j hj => by rw [h1 j hj]; rfl⟩
  unfold findP
  rw [if_pos h24, this, if_pos (by omega)]
theorem findP_none {bs : List Bool} (h : ∀ (k : Nat) (hk : k < bs.length), bs[k] = true) : findP bs = -1 := by
  unfold findP
  split
  · rename_i h24
    have : bs.findIdx (fun b => !b) = bs.length := by
      rw [List.findIdx_eq_length]
      intro x hx
      obtain ⟨k, hk, rfl⟩ := List.getElem_of_mem hx
      rw [h k hk]; rfl
    rw [if_neg (by omega)]
  · rfl
theorem findP_bad {bs : List Bool} (h : ¬ bs.length = 24) : findP bs = -1 := by unfold findP; rw [if_neg h]
theorem findP_bd (bs : List Bool) : -1 ≤ findP bs ∧ findP bs ≤ 23 := by
  unfold findP
  split
  · split <;> omega
  · omega

/-- What the runs say: the first one begins at the first free place. -/
def HeadOk (bs : List Bool) (rs : List RunD) : Prop := (rs = [] → findP bs = -1) ∧ ∀ r t, rs = r :: t → findP bs = r.1 ∧ 1 ≤ r.2
structure RunI (bs : List Bool) (i : Nat) (rs : List RunD) : Prop where
  all : ∀ r ∈ rs, 1 ≤ r.2 ∧ r.2 ≤ i
  nil : rs = [] → ∀ (k : Nat) (h : k < bs.length), k < i → bs[k] = true
  head : ∀ r t, rs = r :: t → ∃ k : Nat, r.1 = k ∧ FirstF bs k
  prev : ∀ (k : Nat) (h : k < bs.length), k + 1 = i → bs[k] = false → rs ≠ []
  len : rs.length ≤ i
theorem RunI.zero (bs : List Bool) : RunI bs 0 [] := ⟨by simp, fun _ k _ h => by omega, by simp, fun k _ h => by omega, by simp⟩
theorem RunI.ok {bs : List Bool} {rs : List RunD} (h24 : bs.length = 24) (h : RunI bs bs.length rs) : HeadOk bs rs := by
  refine ⟨fun e => findP_none fun k hk => h.nil e k hk hk, fun r t e => ?_⟩
  obtain ⟨k, hk, hf⟩ := h.head r t e
  exact ⟨by rw [hk]; exact findP_first h24 hf, (h.all r (by rw [e]; simp)).1⟩
theorem RunI.set {bs : List Bool} {i : Nat} {rs : List RunD} (h : RunI bs i rs) (hi : i < bs.length) (hb : bs[i] = true) : RunI bs (i + 1) rs where
  all := fun r hr => by have := h.all r hr; omega
  nil := fun e k hk hlt => by
    by_cases e2 : k = i
    · subst e2; exact hb
    · exact h.nil e k hk (by omega)
  head := h.head
  prev := fun k hk e hf => by
    obtain rfl : k = i := by omega
    rw [hb] at hf; cases hf
  len := by have := h.len; omega
theorem RunI.bump {bs : List Bool} {i : Nat} {ps : List RunD} {r : RunD} (h : RunI bs i (ps ++ [r])) : RunI bs (i + 1) (ps ++ [(r.1, r.2 + 1)]) where
  all := fun x hx => by
    rcases List.mem_append.1 hx with hx | hx
    · have := h.all x (List.mem_append_left _ hx); omega
    · simp at hx; subst hx
      have := h.all r (by simp); simp; omega
  nil := fun e => by simp at e
  head := fun x t e => by
    cases ps with
    | nil => simp at e; obtain ⟨rfl, rfl⟩ := e; exact h.head r [] rfl
    | cons p ps => simp at e; obtain ⟨rfl, rfl⟩ := e; exact h.head p (ps ++ [r]) rfl
  prev := fun k hk e hf => by simp
  len := by have := h.len; simp at this ⊢; omega
theorem RunI.app {bs : List Bool} {i : Nat} {rs : List RunD} (h : RunI bs i rs) (hi : i < bs.length) (hb : bs[i] = false) : RunI bs (i + 1) (rs ++ [((i : Int), 1)]) where
  all := fun x hx => by
    rcases List.mem_append.1 hx with hx | hx
    · have := h.all x hx; omega
    · simp at hx; subst hx; simp; omega
  nil := fun e => by simp at e
  head := fun x t e => by
    cases rs with
    | nil => simp at e; obtain ⟨rfl, rfl⟩ := e; exact ⟨i, rfl, hi, hb, fun j hj => h.nil rfl j (by omega) hj⟩
    | cons p ps => simp at e; obtain ⟨rfl, rfl⟩ := e; exact h.head p ps rfl
  prev := fun k hk e hf => by simp
  len := by have := h.len; simp; omega

set_option maxHeartbeats 400000 in
theorem bitsOk_impl (A : Option Addr) (n c : Nat) (w : World) :
    Calls Try.prog 68 #[.slice A n c] w fun e w' => e = .returned (.bool (decide (n = 24))) ∧ w = w' := by
  by_cases h : n = 24
  · subst h
    go_enter Try.func68, Try.ntmps68
    go_wp2
    go_ret
    exact ⟨by simp, rfl⟩
  · have hb : ((n : Int) == 24) = false := by rw [beq_eq_false_iff_ne]; omega
    have Hd := Lib.hid (show decide (n = 24) = false by simpa using h)
    clear h
    go_enter Try.func68, Try.ntmps68
    go_wp2
    go_ret
    exact ⟨by rw [Hd.out]; rfl, rfl⟩
set_option maxHeartbeats 400000 in
theorem bitsOk_spec (A : Option Addr) (n c : Nat) (w : World) :
    Calls Try.prog 67 #[.slice A n c] w fun e w' => e = .returned (.bool (decide (n = 24))) ∧ w = w' := by
  by_cases h : n = 24
  · subst h
    go_enter Try.func67, Try.ntmps67
    go_wp2
    go_ret
    exact ⟨by simp, rfl⟩
  · have hb : ((n : Int) == 24) = false := by rw [beq_eq_false_iff_ne]; omega
    have Hd := Lib.hid (show decide (n = 24) = false by simpa using h)
    clear h
    go_enter Try.func67, Try.ntmps67
    go_wp2
    go_ret
    exact ⟨by rw [Hd.out]; rfl, rfl⟩

set_option maxRecDepth 100000 in
set_option maxHeartbeats 2000000 in
theorem runs_impl (A : Option Addr) (n c : Nat) (bs : List Bool) (w : World) (hr : Reads w w.heap.size 1 A n (BS bs)) :
    Calls Try.prog 62 #[.slice A n c] w fun e w' => ∃ v rs, e = .returned v ∧ w'.ownsRow w.heap.size 71 2 v rs.length (RS rs) ∧ rs.length ≤ 24 ∧ HeadOk bs rs ∧ Below w.heap.size w w' := by
  have hl : bs.length = n := by have := hr.1; rw [BS_length] at this; omega
  have Own0 := Lib.hid (World.ownsRow_lit (e := 71) (size := 2) w #[] 0 (Nat.le_refl _) (by unfold maxLen; omega) rfl)
  by_cases h24 : n = 24
  rotate_left
  · have hd : decide (n = 24) = false := by simpa using h24
    have HH := Lib.hid (show HeadOk bs [] from ⟨fun _ => findP_bad (by omega), by simp⟩)
    clear hr hl h24
    go_enter Try.func62, Try.ntmps62
    go_wp2_with fail
    refine (bitsOk_impl _ _ _ _).mono ?_
    rintro e w' ⟨rfl, rfl⟩
    rw [hd]
    go_wp2
    go_ret
    exact ⟨_, [], rfl, Own0.out, by simp, HH.out, belA (bel0 w) _⟩
  · subst h24
    have Hr := Lib.hid hr
    have Hl := Lib.hid hl
    clear hr hl
    go_enter Try.func62, Try.ntmps62
    go_wp2_with fail
    refine (bitsOk_impl _ _ _ _).mono ?_
    rintro e w' ⟨rfl, rfl⟩
    go_wp2
    go_loopw [3, 13] (fun v i wr => ∃ (j : Nat) (rs : List RunD), j ≤ 24 ∧ i = .int .i64 j ∧ Hid (RunI bs j rs) ∧ Hid (wr.ownsRow w.heap.size 71 2 v rs.length (RS rs)) ∧ Below w.heap.size w wr)
      (fun _ i _ => 24 - (intOf i).toNat)
    case atStart => exact ⟨0, [], by omega, rfl, RunI.zero bs, Own0.out, belA (bel0 w) _⟩
    case round =>
      clear Own0
      obtain ⟨j, rs, hj, rfl, hI, hown, hbel⟩ := hrel
      have hsz := hbel.size
      have hlen := hI.out.len
      by_cases hlt : j < 24
      · obtain ⟨hkx, ad, rfl, hadb, z0⟩ := reads_bit (Hr.out.below hbel) hlt
        have q0 : (0 : Int) ≤ ↑j := by omega
        have q1 : (↑j : Int) < 24 := by omega
        have hX : (w.heap.size ≤ wr.heap.size) := hsz
        cases hb : bs[j]
        · -- free
          rw [hb] at z0
          have HB := Lib.hid hb
          clear hb
          have happ := Lib.hid (hI.out.app hkx HB.out)
          rcases Nat.eq_zero_or_pos j with h0 | h0
          · have j0 : ¬ (0 : Int) < ↑j := by omega
            have j1 : decide ((0 : Int) < ↑j) = false := by simpa using j0
            clear h0
            go_wp2_with (at_builtin; go_must (refine wpList_app _ rfl _ _ _ rfl Try.el_run (hown.out.alloc _) rfl (reads_new _ _ _ _ 1 (by rfl)) rfl (RS_cells [((j : Int), 1)]) (max_small (by omega)) (by omega) (by simp; omega) ?_); intro v1 w1 own1 hg1 _ hb1)
            have own2 : w1.ownsRow w.heap.size 71 2 v1 (rs ++ [((j : Int), (1 : Int))]).length (RS (rs ++ [((j : Int), (1 : Int))])) := by rw [RS_append, List.length_append]; exact own1
            have Own2 := Lib.hid own2
            clear own2 own1
            go_roundw
            case rel => exact ⟨j + 1, _, by omega, by go_num, happ.out, Own2.out, (hbel.alloc hsz _).trans hb1⟩
            case measure => simp [intOf]; omega
          · obtain ⟨p, hp⟩ : ∃ p, j = p + 1 := ⟨j - 1, by omega⟩
            obtain ⟨hkp, ad2, hA2, _, y0⟩ := reads_bit (Hr.out.below hbel) (show p < 24 by omega)
            simp only [Option.some.injEq] at hA2
            subst hA2
            have wp1 : IntKind.i64.wrap ((j : Int) - 1) = (p : Int) := by rw [IntKind.wrap_i64]; omega
            have p0 : (0 : Int) ≤ ↑p := by omega
            have p1 : (↑p : Int) < 24 := by omega
            have j0 : (0 : Int) < ↑j := by omega
            have HP := Lib.hid hp
            have Hprev := Lib.hid (fun (h : bs[p] = false) => hI.out.prev p hkp hp.symm h)
            clear hp
            cases hbp : bs[p]
            · rw [hbp] at y0
              have hne := Hprev.out hbp
              obtain ⟨ps, r, rfl⟩ : ∃ ps r, rs = ps ++ [r] := ⟨rs.dropLast, rs.getLast hne, (List.dropLast_concat_getLast hne).symm⟩
              have hr1 := hI.out.all r (by simp)
              obtain ⟨m, hm⟩ : ∃ m, (ps ++ [r]).length = m := ⟨_, rfl⟩
              have hm1 : m = ps.length + 1 := by rw [← hm]; simp
              rw [hm] at hown hlen
              obtain ⟨g, cv, rfl⟩ := own_form1 hown.out (by omega)
              have hg0 := own_ltX hown.out
              have c1 : wr.cell? ⟨g, ps.length * 2 + 1, none⟩ = some (.int .i64 r.2) := by
                rw [hown.out.cellAt (ps.length * 2 + 1) (by omega)]
                have := (RS_get (ps ++ [r]) ps.length (by simp)).2
                simpa using this
              have f1 := own_frozen hown.out (ps.length * 2 + 1)
              have own2 := own_set hown.out (ps.length * 2 + 1) (.int .i64 (r.2 + 1))
              rw [RS_bump] at own2
              have hI2 := Lib.hid hI.out.bump
              have hm2 : (ps ++ [(r.1, r.2 + 1)]).length = m := by rw [← hm]; simp
              have wm1 : IntKind.i64.wrap ((m : Int) - 1) = (ps.length : Int) := by rw [IntKind.wrap_i64]; omega
              have wr1 : IntKind.i64.wrap (r.2 + 1) = r.2 + 1 := by rw [IntKind.wrap_i64]; omega
              have m0 : (0 : Int) ≤ (ps.length : Int) := by omega
              have m1 : (ps.length : Int) < (m : Int) := by omega
              have Own2 := Lib.hid own2
              have HM2 := Lib.hid hm2
              obtain ⟨L, hL⟩ : ∃ L, ps.length = L := ⟨_, rfl⟩
              obtain ⟨r2, hr2⟩ : ∃ x, r.2 = x := ⟨_, rfl⟩
              rw [hL] at c1 f1 wm1 m0 m1 Own2
              rw [hr2] at c1 wr1 hr1 Own2 HM2 hI2
              clear hm hm1 hm2 own2 happ hbp hne hL hr2
              go_wp2
              go_roundw
              case rel => exact ⟨j + 1, _, by omega, by go_num, hI2.out, by rw [HM2.out]; exact Own2.out, belC hbel _ _ hg0.1 _⟩
              case measure => simp [intOf]; omega
            · rw [hbp] at y0
              clear hbp Hprev
              go_wp2_with (at_builtin; go_must (refine wpList_app _ rfl _ _ _ rfl Try.el_run (hown.out.alloc _) rfl (reads_new _ _ _ _ 1 (by rfl)) rfl (RS_cells [((j : Int), 1)]) (max_small (by omega)) (by omega) (by simp; omega) ?_); intro v1 w1 own1 hg1 _ hb1)
              have own2 : w1.ownsRow w.heap.size 71 2 v1 (rs ++ [((j : Int), (1 : Int))]).length (RS (rs ++ [((j : Int), (1 : Int))])) := by rw [RS_append, List.length_append]; exact own1
              have Own2 := Lib.hid own2
              clear own2 own1
              go_roundw
              case rel => exact ⟨j + 1, _, by omega, by go_num, happ.out, Own2.out, (hbel.alloc hsz _).trans hb1⟩
              case measure => simp [intOf]; omega
        · rw [hb] at z0
          have hI2 := Lib.hid (hI.out.set hkx hb)
          clear hb
          go_wp2
          go_roundw
          case rel => exact ⟨j + 1, rs, by omega, by go_num, hI2.out, hown.out, hbel⟩
          case measure => simp [intOf]; omega
      · obtain rfl : j = 24 := by omega
        have HH := Lib.hid (show HeadOk bs rs from RunI.ok Hl.out (by rw [Hl.out]; exact hI.out))
        go_wp2
        go_ret
        exact ⟨_, rs, rfl, hown.out, hlen, HH.out, hbel⟩

end Go.Proofs.Ytajgenjfhcapjaa
