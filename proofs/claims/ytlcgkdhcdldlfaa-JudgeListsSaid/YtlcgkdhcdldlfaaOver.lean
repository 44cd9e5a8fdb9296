import Derived.Test.YtlcgkdhcdldlfaaLive
namespace Go.Proofs.Ytlcgkdhcdldlfaa
open Go.RowKit

theorem grown_set (w : World) (g i : Nat) (v : Value) : w.grownBy (w.setCell ⟨g, i, none⟩ v) (some g) :=
  ⟨rfl, rfl, rfl, by simp, fun k _ hk => Below.heap_setCell _ ⟨g, i, none⟩ _ k (fun e => hk (by rw [e]))⟩
theorem OwnI.set {w : World} {base n c g : Nat} {xs : List Int} (h : OwnI w base (some ⟨g, 0, none⟩) n c xs) (k : Nat) (y : Int) : OwnI (w.setCell ⟨g, k, none⟩ (.int .i64 y)) base (some ⟨g, 0, none⟩) n c (xs.set k y) := by
  obtain ⟨hl, h⟩ := h
  refine ⟨by simpa using hl, ?_⟩
  rcases h with ⟨h, _⟩ | ⟨g', cur, he, h1, h2, h3, h4, h5⟩
  · cases h
  · injection he with he
    injection he with he
    subst he
    refine .inr ⟨g, _, rfl, h1, h2.set k (.int .i64 y), h3, by simpa using h4, ?_⟩
    rw [Array.toList_setIfInBounds, List.take_set, h5]
    simp [I64]
theorem OwnI.some {w : World} {base n c : Nat} {A : Option Addr} {xs : List Int} (h : OwnI w base A n c xs) (hn : 0 < n) : ∃ g, A = Option.some ⟨g, 0, none⟩ ∧ base ≤ g ∧ g < w.heap.size := by
  rcases h.2 with ⟨_, h0, _⟩ | ⟨g, cur, h1, h2, h3, _⟩
  · omega
  · exact ⟨g, h1, h2, h3.lt⟩
theorem OwnI.cell {w : World} {base n c g : Nat} {xs : List Int} (h : OwnI w base (Option.some ⟨g, 0, none⟩) n c xs) (k : Nat) (hk : k < n) : w.cell? ⟨g, k, none⟩ = Option.some (.int .i64 (wv xs k)) ∧ w.frozen? ⟨g, k, none⟩ = false := by
  have hl := h.1
  have h1 := h.rd.i64At k (by omega)
  rw [Nat.zero_add, wv_get xs k (by omega)] at h1
  refine ⟨h1, ?_⟩
  rcases h.2 with ⟨h0, _⟩ | ⟨g', cur, he, _, hB, _⟩
  · cases h0
  · injection he with he
    injection he with he
    subst he
    exact hB.frozen k
theorem OwnI.alloc {w : World} {base n c : Nat} {A : Option Addr} {xs : List Int} (h : OwnI w base A n c xs) (o : Obj) : OwnI (w.alloc o) base A n c xs := by
  refine ⟨h.1, ?_⟩
  rcases h.2 with h | ⟨g, cur, h1, h2, h3, h4⟩
  · exact .inl h
  · exact .inr ⟨g, cur, h1, h2, h3.alloc o, h4⟩

set_option maxRecDepth 100000 in
set_option maxHeartbeats 2000000 in
/-- over -/
theorem over_any (A : Option Addr) (n c base : Nat) (xs : List Int) (mark : Int) (w : World) (hO : OwnI w base A n c xs) (hbase : base ≤ w.heap.size) (hn : n ≤ 100000) (hm : -1000 ≤ mark ∧ mark ≤ 1000) :
    Calls Try.prog 24 #[.slice A n c, .int .i64 mark] w fun e w' => e = .returned (.tuple #[]) ∧ w.grownBy w' (blk A) := by
  go_enter Try.func24, Try.ntmps24
  go_wp2
  go_loopw [4] (fun i wr => ∃ (k : Nat) (ys : List Int), k ≤ n ∧ i = .int .i64 (k : Int) ∧ OwnI wr base A n c ys ∧ w.grownBy wr (blk A)) (fun i _ => n - (intOf i).toNat)
  case atStart => exact ⟨0, xs, by omega, rfl, hO, grown_refl _ _⟩
  case round =>
    obtain ⟨k, ys, hk, rfl, ho, hg⟩ := hrel
    by_cases hlt : k < n
    · obtain ⟨g, rfl, hgb, _⟩ := ho.some (by omega)
      obtain ⟨y0, y1⟩ := ho.cell k hlt
      have ea : (⟨g, 0, none⟩ : Addr).add k = ⟨g, k, none⟩ := by simpa using addr_add g 0 k
      have hki : (k : Int) < (n : Int) := by omega
      go_wp2
      go_roundw
      case rel => exact ⟨k + 1, _, by omega, by go_num, ho.set k mark, grown_step hg (grown_set _ _ _ _) (.inl rfl)⟩
      case measure => simp [intOf]; omega
    · have hs := hg.size
      have hw1 : IntKind.i64.wrap (mark - 100) = mark - 100 := IntWalk.i64_in _ (by omega)
      have hw2 : IntKind.i64.wrap (mark - 200) = mark - 200 := IntWalk.i64_in _ (by omega)
      clear hO
      go_wp2
      go_loopw [5, 6] (fun v i wr => ∃ (k : Nat) (A' : Option Addr) (c' : Nat) (ys : List Int), k ≤ 64 ∧ i = .int .i64 (k : Int) ∧ v = .slice A' (n + k) c' ∧ OwnI wr base A' (n + k) c' ys ∧ w.grownBy wr (blk A) ∧ (blk A' = blk A ∨ ∀ g, blk A' = some g → w.heap.size ≤ g)) (fun _ i _ => 64 - (intOf i).toNat)
      case atStart => exact ⟨0, A, c, ys, by omega, rfl, rfl, ho, hg, .inl rfl⟩
      case round =>
        clear ho hg hs
        obtain ⟨k, A', c', ys, hk, rfl, rfl, ho, hg, hf⟩ := hrel
        have hs := hg.size
        by_cases hlt : k < 64
        · go_wp2_with (at_builtin; refine appI base rfl _ _ 23 rfl Try.underlying23 info3 A' (n + k) c' ys (mark - 100) rfl rfl ho (by omega) (by omega) ?_; intro A2 c2 w2 ho2 hg2 hf2)
          go_roundw
          case rel =>
            refine ⟨k + 1, A2, c2, _, by omega, by go_num, rfl, ho2, grown_step hg hg2 hf, ?_⟩
            rcases hf2 with h | h
            · rw [h]; exact hf
            · exact .inr fun g hg' => by have := h g hg'; omega
          case measure => simp [intOf]; omega
        · obtain rfl : k = 64 := by omega
          obtain ⟨g, rfl, hgb, _⟩ := ho.some (by omega)
          obtain ⟨y0, y1⟩ := ho.cell (n + 63) (by omega)
          have ea : (⟨g, 0, none⟩ : Addr).add (n + 63) = ⟨g, n + 63, none⟩ := by simpa using addr_add g 0 (n + 63)
          have hw3 : IntKind.i64.wrap (((n + 64 : Nat) : Int) - 1) = ((n + 63 : Nat) : Int) := by rw [IntWalk.i64_in _ (by omega)]; omega
          have h0 : ((n + 63 : Nat) : Int) < ((n + 64 : Nat) : Int) := by omega
          go_wp2
          go_end0
          refine ⟨rfl, grown_step hg (grown_set _ _ _ _) ?_⟩
          rcases hf with h | h
          · exact .inl (by rw [← h]; rfl)
          · exact .inr fun g' hg' => by cases hg'; exact h g rfl
end Go.Proofs.Ytlcgkdhcdldlfaa
