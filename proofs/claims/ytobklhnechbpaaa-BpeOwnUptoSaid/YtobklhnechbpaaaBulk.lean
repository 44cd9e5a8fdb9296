import Derived.Test.YtobklhnechbpaaaArg
namespace Go.Proofs.Ytobklhnechbpaaa
open Go.ChangeShapes Go.WideShapes Go.ChangeAt Go.RowKit

theorem bulk_pos {H : Type} (d : DataW H) : 1 ≤ Rows.uptoBulk d := by
  cases d with
  | lit l => cases l <;> simp [Rows.uptoBulk]
  | _ => simp [Rows.uptoBulk]
theorem bulk_all {H : Type} (ds : List (DataW H)) : ds.length ≤ Rows.uptoBulkAll ds := by
  induction ds with
  | nil => simp [Rows.uptoBulkAll]
  | cons d r ih =>
    have := bulk_pos d
    simp only [Rows.uptoBulkAll, List.length_cons]
    omega
theorem bulk_mem {H : Type} {ds : List (DataW H)} {j : Nat} {d : DataW H} (h : ds[j]? = some d) : Rows.uptoBulk d ≤ Rows.uptoBulkAll ds := by
  induction ds generalizing j with
  | nil => simp at h
  | cons a r ih =>
    simp only [Rows.uptoBulkAll]
    cases j with
    | zero => simp at h; subst h; omega
    | succ j =>
      have := ih (by simpa using h)
      omega
theorem small_slice {H : Type} {enc : TypeId × Value → H} {P : Program} {w : World} {held : Bool} {t e : TypeId} {A : Option Addr} {n c sz : Nat} {d : DataW H} {p : List MemPlace} {ds : List (DataW H)} {j : Nat}
    (hk : Rows.uptoSmall H ds = true) (hd : ds[j]? = some d) (ht : P.underlying t = some (.slice e)) (hsz : P.cellsOf e = sz) (h0 : 0 < sz)
    (h : DataW.Trod enc P w 0 (fun _ => true) held t (.slice A n c) d p) : n ≤ 1048576 ∧ c ≤ 1048576 := by
  have h1 : Rows.uptoBulkAll ds ≤ 1048576 := of_decide_eq_true hk
  have h2 := bulk_mem hd
  rcases open_rows ht hsz h0 h with ⟨_, rfl, rfl, rfl⟩ | ⟨b, o, D, hl, hm, _, _, rfl, _⟩
  · omega
  · simp only [Rows.uptoBulk] at h2
    have h3 := bulk_all ((List.range n).map D)
    have h4 := bulk_all ((List.range (c - n)).map fun j => D (n + j))
    simp at h3 h4
    omega
end Go.Proofs.Ytobklhnechbpaaa
