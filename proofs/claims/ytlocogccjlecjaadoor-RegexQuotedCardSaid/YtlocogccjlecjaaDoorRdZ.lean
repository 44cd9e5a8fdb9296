import Derived.Test.YtlocogccjlecjaaDoorLead
/- How great a tree can be (plain). -/
namespace Go.Proofs.YtlocogccjlecjaaDoor
open Go.RowKit
def Ph.gz : Ph → Nat | .ex _ => 3 | .exL _ t => t.sz | .brL _ t => t.sz | .atom _ => 0 | .suf _ t => t.sz
def Ph.ga : Ph → Nat | .atom _ => 1 | _ => 0
theorem Gr_sz {s : ByteArray} {ph : Ph} {r : Res} (h : Gr s ph r) : ∀ t j, r = .ok t j → t.sz + 4 * ph.start + ph.ga ≤ 4 * j + ph.gz := by
  induction h with
  | exOk _ _ ih1 ih2 => intro t j e; have h1 := ih1 _ _ rfl; have h2 := ih2 _ _ e; simp only [Ph.start, Ph.gz, Ph.ga, Rx.sz] at *; omega
  | exEnd _ => intro t j e; cases e; simp only [Ph.start, Ph.gz, Ph.ga]; omega
  | exMore _ _ _ ih1 ih2 => intro t j e; have h1 := ih1 _ _ rfl; have h2 := ih2 _ _ e; simp only [Ph.start, Ph.gz, Ph.ga, Rx.sz] at *; omega
  | brEnd _ => intro t j e; cases e; simp only [Ph.start, Ph.gz, Ph.ga]; omega
  | brMore _ _ _ _ _ _ ih1 ih2 ih3 => intro t j e; have h1 := ih1 _ _ rfl; have h2 := ih2 _ _ rfl; have h3 := ih3 _ _ e; simp only [Ph.start, Ph.gz, Ph.ga, Rx.sz] at *; omega
  | sufEnd _ => intro t j e; cases e; simp only [Ph.start, Ph.gz, Ph.ga]; omega
  | sufMore _ _ ih => intro t j e; have h1 := ih _ _ e; simp only [Ph.start, Ph.gz, Ph.ga, Rx.sz] at *; omega
  | atPar _ _ _ ih => intro t j e; cases e; have h1 := ih _ _ rfl; simp only [Ph.start, Ph.gz, Ph.ga] at *; omega
  | atCls h h2 => intro t j e; cases e; have h1 := (Gr_le (Gr.atCls h h2) _ _ rfl).2 _ rfl; simp only [Ph.start, Ph.gz, Ph.ga, Rx.sz] at *; omega
  | atEsc h h2 => intro t j e; cases e; have h1 := (Gr_le (Gr.atEsc h h2) _ _ rfl).2 _ rfl; simp only [Ph.start, Ph.gz, Ph.ga, Rx.sz] at *; omega
  | atDot h => intro t j e; cases e; simp only [Ph.start, Ph.gz, Ph.ga, Rx.sz] at *; omega
  | atByte h h1 h2 h3 h4 => intro t j e; cases e; simp only [Ph.start, Ph.gz, Ph.ga, Rx.sz] at *; omega
  | _ => intro t j e; cases e
end Go.Proofs.YtlocogccjlecjaaDoor
