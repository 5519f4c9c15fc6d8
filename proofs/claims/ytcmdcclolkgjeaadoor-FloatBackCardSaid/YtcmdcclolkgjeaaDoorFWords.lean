/- Words that came in. -/
import Derived.Test.YtcmdcclolkgjeaaDoorFOrd
namespace Go.Proofs.YtcmdcclolkgjeaaDoor
open Go.RowKit

theorem words_of {w : World} {p : Option Addr} {len : Nat} {zs : List Int} (h : Nums .u64 w p len zs) (hz : ∀ n ∈ zs, (Lit.int .u64 n).wf = true) : Words w p len (zs.map Int.toNat) := by
  have hb : ∀ n ∈ zs, 0 ≤ n ∧ n < 18446744073709551616 := fun n hn => by
    have h1 := hz n hn
    simp only [Lit.wf, Bool.and_eq_true, decide_eq_true_eq] at h1
    have e1 : IntKind.u64.min = 0 := by rfl
    have e2 : IntKind.u64.max = 18446744073709551615 := by rfl
    omega
  refine ⟨?_, fun f hf => ?_⟩
  · have e : (zs.map Int.toNat).map Int.ofNat = zs := by
      rw [List.map_map]
      conv => rhs; rw [← List.map_id zs]
      exact List.map_congr_left fun n hn => by
        have := hb n hn
        show Int.ofNat n.toNat = n
        exact Int.toNat_of_nonneg this.1
    rw [e]; exact h
  · obtain ⟨n, hn, rfl⟩ := List.mem_map.1 hf
    have := hb n hn
    omega

theorem u64_nat {a : Int} (h : (Lit.int .u64 a).wf = true) : ∃ n : Nat, a = (n : Int) ∧ n < 18446744073709551616 := by
  simp only [Lit.wf, Bool.and_eq_true, decide_eq_true_eq] at h
  have e1 : IntKind.u64.min = 0 := by rfl
  have e2 : IntKind.u64.max = 18446744073709551615 := by rfl
  exact ⟨a.toNat, by omega, by omega⟩

end Go.Proofs.YtcmdcclolkgjeaaDoor
