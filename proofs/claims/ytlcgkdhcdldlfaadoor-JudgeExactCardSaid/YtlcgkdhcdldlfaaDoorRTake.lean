import Derived.Test.YtlcgkdhcdldlfaaDoorTake
namespace Go.Proofs.YtlcgkdhcdldlfaaDoor
open Go.RowKit

theorem full_last {t : List Nd} {way : List Int} {next : Int} (h : 0 < way.length) : wv (takeFull t way next) (way.length - 1) = next := by
  have h1 : (wayTk t way).length = way.length - 1 := by simp [wayTk]
  rw [← wv_get _ _ (by rw [takeFull_length h]; omega)]
  simp only [takeFull]
  rw [List.getElem_append_right (by omega)]
  simp
theorem full_get {t : List Nd} {way : List Int} {next : Int} {k : Nat} (h : k + 1 < way.length) : wv (takeFull t way next) k = tk t (wv way (k + 1)).toNat := by
  have h1 : (wayTk t way).length = way.length - 1 := by simp [wayTk]
  rw [← wv_get _ _ (by rw [takeFull_length (by omega)]; omega)]
  simp only [takeFull]
  rw [List.getElem_append_left (by omega), wayTk_get t way k (by omega)]

end Go.Proofs.YtlcgkdhcdldlfaaDoor
