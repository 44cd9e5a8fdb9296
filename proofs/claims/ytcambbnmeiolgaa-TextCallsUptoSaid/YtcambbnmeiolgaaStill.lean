import Derived.Test.YtcambbnmeiolgaaTwin
namespace Go.Proofs.Ytcambbnmeiolgaa
open Go.RowKit

theorem B8_get (xs : List Int) (i : Nat) (h : i < xs.length) : (B8 xs)[i]? = some (.int .u8 xs[i]) := by simp [B8, h]
theorem Rd.cell0 {w : World} {g : Nat} {vs : List Value} (h : Rd w (some ⟨g, 0, none⟩) vs) (i : Nat) (hi : i < vs.length) : w.cell? ⟨g, i, none⟩ = vs[i]? := by
  rcases h with rfl | ⟨b, o, e, hc⟩
  · simp at hi
  · injection e with e
    injection e with e1 e2
    subst e1 e2
    simpa using hc i hi

end Go.Proofs.Ytcambbnmeiolgaa
