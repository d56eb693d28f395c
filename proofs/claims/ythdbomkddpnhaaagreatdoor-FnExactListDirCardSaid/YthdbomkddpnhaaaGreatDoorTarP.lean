/- Archives of directories: plain Lean. -/
import Derived.Test.YthdbomkddpnhaaaGreatDoorLk
import Derived.Test.YthdbomkddpnhaaaGreatDoorHome
import Derived.Test.YthdbomkddpnhaaaGreatDoorVolOk
namespace Go.Proofs.YthdbomkddpnhaaaGreatDoor
open Go Go.RowKit

def tarOne (xs : List InoD) (T : Int → ByteArray) (e : EntD) : ByteArray :=
  match xs[(plc xs e.d).toNat]? with
  | none => ⟨#[]⟩
  | some x => if x.kd = 2 then str [100] ++ pieceB e.s ++ T x.id ++ str [101] else str [102] ++ pieceB e.s ++ pieceB x.s
def tarR (xs : List InoD) (T : Int → ByteArray) (es : List EntD) : ByteArray := es.foldl (fun o e => o ++ tarOne xs T e) ⟨#[]⟩
def entsOf (xs : List InoD) (a : Int) : List EntD := match xs[(plc xs a).toNat]? with | none => [] | some x => x.es
def tarF (xs : List InoD) : Nat → Int → ByteArray
  | 0, _ => ⟨#[]⟩
  | n + 1, a => tarR xs (tarF xs n) (entsOf xs a)
/-- The text of the entries of a directory. -/
noncomputable def tarT (xs : List InoD) (a : Int) : ByteArray := tarF xs (16 - dpt xs a) a

theorem bytes_app_size (a b : ByteArray) : (a ++ b).size = a.size + b.size := by simp
theorem tarR_snoc {xs : List InoD} {T : Int → ByteArray} {es : List EntD} {k : Nat} (hk : k < es.length) : tarR xs T (es.take (k + 1)) = tarR xs T (es.take k) ++ tarOne xs T es[k] := by
  unfold tarR; rw [List.take_succ_eq_append_getElem hk, List.foldl_append]; rfl
theorem foldR_size {xs : List InoD} {T : Int → ByteArray} : ∀ (es : List EntD) (o : ByteArray), (es.foldl (fun o e => o ++ tarOne xs T e) o).size = o.size + (es.map fun e => (tarOne xs T e).size).sum
  | [], o => by simp
  | e :: es, o => by rw [List.foldl_cons, foldR_size es, List.map_cons, List.sum_cons, bytes_app_size]; omega
theorem tarR_size (xs : List InoD) (T : Int → ByteArray) (es : List EntD) : (tarR xs T es).size = (es.map fun e => (tarOne xs T e).size).sum := by
  unfold tarR; rw [foldR_size, show (⟨#[]⟩ : ByteArray).size = 0 from rfl]; omega
theorem sum_take_le (f : EntD → Nat) : ∀ (es : List EntD) (k : Nat), ((es.take k).map f).sum ≤ (es.map f).sum
  | [], k => by simp
  | e :: es, 0 => by simp
  | e :: es, k + 1 => by have := sum_take_le f es k; simp only [List.take_succ_cons, List.map_cons, List.sum_cons]; omega
theorem tarR_take (xs : List InoD) (T : Int → ByteArray) (es : List EntD) (k : Nat) : (tarR xs T (es.take k)).size ≤ (tarR xs T es).size := by
  rw [tarR_size, tarR_size]; exact sum_take_le _ _ _

/-- How great the text of a directory is; 0 of what is none. -/
def gz (xs : List InoD) (n : Nat) (c : Int) : Nat := match xs[(plc xs c).toNat]? with | none => 0 | some x => if x.kd = 2 then (tarF xs n x.id).size else 0
theorem sum_once (g : Int → Nat) : ∀ (l m : List Int), (∀ c ∈ l, g c ≠ 0 → c ∈ m ∧ l.count c ≤ 1) → (l.map g).sum ≤ (m.map g).sum
  | [], m, _ => by simp
  | c :: l, m, h => by
    rw [List.map_cons, List.sum_cons]
    by_cases h0 : g c = 0
    · have := sum_once g l m fun d hd hg => by
        obtain ⟨h1, h2⟩ := h d (by simp [hd]) hg
        refine ⟨h1, Nat.le_trans ?_ h2⟩
        rw [List.count_cons]; omega
      omega
    · obtain ⟨h1, h2⟩ := h c (by simp) h0
      have hc : l.count c = 0 := by rw [List.count_cons_self] at h2; omega
      have h3 := sum_once g l (m.erase c) fun d hd hg => by
        obtain ⟨h4, h5⟩ := h d (by simp [hd]) hg
        have hne : d ≠ c := by rintro rfl; exact absurd (List.count_pos_iff.2 hd) (by omega)
        refine ⟨(List.mem_erase_of_ne hne).2 h4, Nat.le_trans ?_ h5⟩
        rw [List.count_cons]; omega
      have h6 : (m.map g).sum = g c + ((m.erase c).map g).sum := by
        have := (List.perm_cons_erase h1).map g
        rw [this.sum_nat, List.map_cons, List.sum_cons]
      omega
section
variable {nx : Int} {xs : List InoD}
theorem one_size (hv : VolP nx xs) {x : InoD} (hx : x ∈ xs) {e : EntD} (he : e ∈ x.es) (n : Nat) : (tarOne xs (tarF xs n) e).size ≤ 100 + gz xs n e.d := by
  have h1 := pieceB_size e.s
  have h2 := es_name hv hx he
  unfold tarOne gz
  split
  · show 0 ≤ _; omega
  · rename_i y hy
    have hyx := List.mem_of_getElem? hy
    have h3 := pieceB_size y.s
    have h4 := (ino_data hv hyx).1
    split
    · simp only [bytes_app_size]; have : (str [100]).size = 1 := rfl; have : (str [101]).size = 1 := rfl; omega
    · simp only [bytes_app_size]; have : (str [102]).size = 1 := rfl; omega
theorem row_size (hv : VolP nx xs) {x : InoD} (hx : x ∈ xs) (n : Nat) : (tarF xs (n + 1) x.id).size ≤ 1200 + ((x.es.map (·.d)).map (gz xs n)).sum := by
  unfold tarF entsOf
  rw [plc_mem hv hx, tarR_size]
  have h12 := es_len hv hx
  have : ∀ (l : List EntD), (∀ e ∈ l, e ∈ x.es) → (l.map fun e => (tarOne xs (tarF xs n) e).size).sum ≤ 100 * l.length + ((l.map (·.d)).map (gz xs n)).sum := by
    intro l
    induction l with
    | nil => simp
    | cons e l ih =>
      intro h
      have h1 := ih fun e he => h e (by simp [he])
      have h2 := one_size hv hx (h e (by simp)) n
      simp only [List.map_cons, List.sum_cons, List.length_cons]
      omega
  have := this x.es fun _ h => h
  simp only
  omega
/-- All directories' texts together. -/
def tot (xs : List InoD) (n : Nat) : Nat := ((xs.map (·.id)).map (gz xs n)).sum
theorem tot_le (hv : VolP nx xs) : ∀ n, tot xs n ≤ n * 20000
  | 0 => by
    unfold tot
    have : ∀ l : List Int, (l.map (gz xs 0)).sum = 0 := by
      intro l
      induction l with
      | nil => rfl
      | cons c l ih =>
        rw [List.map_cons, List.sum_cons, ih]
        unfold gz tarF; split
        · rfl
        · split <;> rfl
    rw [this]; omega
  | n + 1 => by
    have ih := tot_le hv n
    have h1 : ∀ (l : List InoD), (∀ x ∈ l, x ∈ xs) → ((l.map (·.id)).map (gz xs (n + 1))).sum ≤ 1200 * l.length + ((allIds l).map (gz xs n)).sum := by
      intro l
      induction l with
      | nil => simp
      | cons x l ih =>
        intro h
        have h2 := ih fun e he => h e (by simp [he])
        have hx := h x (by simp)
        have h3 := row_size hv hx n
        have h4 : gz xs (n + 1) x.id ≤ (tarF xs (n + 1) x.id).size := by
          unfold gz
          rw [plc_mem hv hx]
          simp only
          split <;> omega
        unfold allIds at h2 ⊢
        rw [List.flatMap_cons, List.map_append, List.sum_append, List.map_cons, List.map_cons, List.sum_cons, List.length_cons]
        omega
    have h2 := h1 xs fun _ h => h
    have h3 := sum_once (gz xs n) (allIds xs) (xs.map (·.id)) fun c hc hg => by
      obtain ⟨y, hy, hyc⟩ := List.mem_flatMap.1 hc
      obtain ⟨e, he, rfl⟩ := List.mem_map.1 hyc
      obtain ⟨hne, hp⟩ := hv.not1 hy he
      obtain ⟨k, hk, hpk, hid⟩ := plc_lt hp
      have hkd : xs[k].kd = 2 := by
        by_cases h : xs[k].kd = 2
        · exact h
        · exfalso; apply hg
          unfold gz; rw [hpk, Int.toNat_natCast, List.getElem?_eq_getElem hk]; simp only; rw [if_neg h]
      refine ⟨List.mem_map.2 ⟨_, List.getElem_mem hk, hid⟩, ?_⟩
      have := hv.link1 (List.getElem_mem hk) hkd (by rw [hid]; exact hne)
      unfold linksN at this
      rw [hid] at this; omega
    have h16 := hv.n.2
    unfold tot at ih ⊢
    have : (n + 1) * 20000 = n * 20000 + 20000 := by omega
    omega
theorem mem_sum (f : Int → Nat) : ∀ (l : List Int) (c : Int), c ∈ l → f c ≤ (l.map f).sum
  | d :: l, c, h => by
    rw [List.map_cons, List.sum_cons]
    rcases List.mem_cons.1 h with rfl | h
    · omega
    · have := mem_sum f l c h; omega
theorem tarF_size (hv : VolP nx xs) {x : InoD} (hx : x ∈ xs) (hd : x.kd = 2) {n : Nat} (hn : n ≤ 16) : (tarF xs n x.id).size ≤ 320000 := by
  have h1 := tot_le hv n
  have h2 := mem_sum (gz xs n) (xs.map (·.id)) x.id (List.mem_map.2 ⟨x, hx, rfl⟩)
  have h3 : gz xs n x.id = (tarF xs n x.id).size := by unfold gz; rw [plc_mem hv hx]; simp only; rw [if_pos hd]
  unfold tot at h1
  have : n * 20000 ≤ 16 * 20000 := Nat.mul_le_mul_right _ hn
  omega
theorem tarT_size (hv : VolP nx xs) {x : InoD} (hx : x ∈ xs) (hd : x.kd = 2) : (tarT xs x.id).size ≤ 320000 := tarF_size hv hx hd (by omega)
/-- A directory that stands in a directory is one deeper. -/
theorem kid_deep (hv : VolP nx xs) {x y : InoD} (hx : x ∈ xs) {e : EntD} (he : e ∈ x.es) (hy : y ∈ xs) (hd : y.kd = 2) (hyd : y.id = e.d) : dpt xs y.id = dpt xs x.id + 1 := by
  obtain ⟨hne, _⟩ := hv.not1 hx he
  obtain ⟨x', hx', e', he', hed, _, hpr, h1, _⟩ := dir_up hv (a := y.id) (by rw [hyd]; exact hne) ⟨y, hy, rfl, hd⟩
  have hm : (x.id, e.s) ∈ pairs xs y.id := pairs_mem.2 ⟨x, hx, e, he, hyd.symm, rfl⟩
  rw [hpr] at hm
  have := List.mem_singleton.1 hm
  injection this with h2 _
  rw [h1, h2]
/-- The text of a directory, by those of its directories. -/
theorem tarT_is (hv : VolP nx xs) {x : InoD} (hx : x ∈ xs) (hd : x.kd = 2) : tarT xs x.id = tarR xs (tarT xs) x.es := by
  have h15 := dpt_short hv (a := x.id) ⟨x, hx, rfl, hd⟩
  obtain ⟨m, hm⟩ : ∃ m, 16 - dpt xs x.id = m + 1 := ⟨15 - dpt xs x.id, by omega⟩
  have he : entsOf xs x.id = x.es := by unfold entsOf; rw [plc_mem hv hx]
  rw [show tarT xs x.id = tarF xs (16 - dpt xs x.id) x.id from rfl, hm, tarF, he]
  unfold tarR
  have : ∀ (l : List EntD) (o : ByteArray), (∀ e ∈ l, e ∈ x.es) → l.foldl (fun o e => o ++ tarOne xs (tarF xs m) e) o = l.foldl (fun o e => o ++ tarOne xs (tarT xs) e) o := by
    intro l
    induction l with
    | nil => intro o _; rfl
    | cons e l ih =>
      intro o h
      rw [List.foldl_cons, List.foldl_cons, ih _ fun e he => h e (by simp [he])]
      congr 2
      have hee := h e (by simp)
      obtain ⟨_, hp⟩ := hv.not1 hx hee
      obtain ⟨k, hk, hpk, hid⟩ := plc_lt hp
      unfold tarOne
      rw [hpk, Int.toNat_natCast, List.getElem?_eq_getElem hk]
      simp only
      split
      · rename_i hkd
        have := kid_deep hv hx hee (List.getElem_mem hk) hkd hid
        unfold tarT
        rw [this, show 16 - (dpt xs x.id + 1) = m by omega]
      · rfl
  exact this x.es _ fun _ h => h
theorem tarOne_dir {T : Int → ByteArray} {e : EntD} {k : Nat} (hk : k < xs.length) (hp : plc xs e.d = (k : Int)) (hd : xs[k].kd = 2) : tarOne xs T e = str [100] ++ pieceB e.s ++ T xs[k].id ++ str [101] := by
  unfold tarOne; rw [hp, Int.toNat_natCast, List.getElem?_eq_getElem hk]; simp only; rw [if_pos hd]
theorem tarOne_file {T : Int → ByteArray} {e : EntD} {k : Nat} (hk : k < xs.length) (hp : plc xs e.d = (k : Int)) (hd : xs[k].kd ≠ 2) : tarOne xs T e = str [102] ++ pieceB e.s ++ pieceB xs[k].s := by
  unfold tarOne; rw [hp, Int.toNat_natCast, List.getElem?_eq_getElem hk]; simp only; rw [if_neg hd]
end

end Go.Proofs.YthdbomkddpnhaaaGreatDoor
