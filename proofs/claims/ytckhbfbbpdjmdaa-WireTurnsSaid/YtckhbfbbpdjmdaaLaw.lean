/- What every law's last step wants: an argument's length within the reach. -/
import Derived.Test.YtckhbfbbpdjmdaaRep
import Derived.SizedLaws
namespace Go.Proofs.Ytckhbfbbpdjmdaa
open Go Go.RowKit

theorem slice_reach {H : Type} {enc : TypeId × Value → H} {P : Program} {w : World} {base : Nat} {sp : Nat → Bool} {held : Bool} {fuel : Nat} {t e : TypeId} {a : Option Addr} {len cap : Nat} {x : DataW H × List MemPlace}
    (ht : P.underlying t = some (.slice e)) (h : DataW.trod enc P w base sp held fuel t [.slice a len cap] = some x) (hw : ∀ n ∈ x.1.weights P t, n ≤ reachBytes) : len * P.bytesOf e ≤ 140737488351232 := by
  rcases Go.Deep.open_slice ht h with ⟨hv, _⟩ | ⟨a', len', cap', m, n, D, Pl, hv, _, _, _, _, hx, _⟩
  · simp at hv
    rw [hv.2.1]; simp
  · simp at hv
    obtain ⟨rfl, rfl, rfl⟩ := hv
    have := hw ((len + (m - len)) * P.bytesOf e) (by rw [hx]; simp [DataW.weights, ht])
    have h2 : len * P.bytesOf e ≤ (len + (m - len)) * P.bytesOf e := Nat.mul_le_mul_right _ (by omega)
    have h3 : reachBytes = 140737488351232 := rfl
    omega
end Go.Proofs.Ytckhbfbbpdjmdaa
