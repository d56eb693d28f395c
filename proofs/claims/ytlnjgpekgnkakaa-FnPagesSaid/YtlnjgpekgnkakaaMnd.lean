/- A page of one entry is mended: all ways. -/
import Derived.Test.YtlnjgpekgnkakaaMnd1
import Derived.Test.YtlnjgpekgnkakaaMnd2
import Derived.Test.YtlnjgpekgnkakaaMnd3
import Derived.Test.YtlnjgpekgnkakaaMnd4
namespace Go.Proofs.Ytlnjgpekgnkakaa
open Go Go.RowKit

theorem mended_any (lo g0 n c0 k : Nat) (L : List PgD) (w : World) (hN : L.length = n) (h8 : n ≤ 8) (hk : k < n) (h2 : 2 ≤ n) (hf : ∀ p ∈ L, full p) (hlen : ∀ p ∈ L, p.xs.length ≤ 4) (hne : ∀ p ∈ L, 0 < p.xs.length) (HO : OwnP w lo L) (HY : w.ownsRow lo 25 1 (.slice (some ⟨g0, 0, none⟩) n c0) n (PV L)) :
    Calls Try.prog 17 #[.slice (some ⟨g0, 0, none⟩) n c0, .int .i64 k] w fun r w' => MendPost w lo (L.map PgD.con) k r w' := by
  by_cases h1 : ∃ h : k + 1 < L.length, 2 < L[k + 1].xs.length
  · obtain ⟨h, h'⟩ := h1
    exact mended_1 lo g0 n c0 k L w hN h8 hk hf hlen hne HO HY (by omega) (fun _ => h')
  · by_cases h3 : ∃ h : k - 1 < L.length, 0 < k ∧ 2 < L[k - 1].xs.length
    · obtain ⟨h, h', h''⟩ := h3
      exact mended_2 lo g0 n c0 k L w hN h8 hk hf hlen hne HO HY h' (fun _ => h'') (fun h e => h1 ⟨h, e⟩)
    · by_cases h4 : k + 1 < n
      · exact mended_3 lo g0 n c0 k L w hN h8 hk hf hlen hne HO HY h4 (fun h e => h1 ⟨h, e⟩) (fun h a e => h3 ⟨h, a, e⟩)
      · exact mended_4 lo g0 n c0 k L w hN h8 hk hf hlen hne HO HY (by omega) (by omega) (fun h e => h3 ⟨h, by omega, e⟩)

end Go.Proofs.Ytlnjgpekgnkakaa
