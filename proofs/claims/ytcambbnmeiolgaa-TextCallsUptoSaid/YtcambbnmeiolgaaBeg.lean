import Derived.Test.YtcambbnmeiolgaaSng
namespace Go.Proofs.Ytcambbnmeiolgaa
open Go.RowKit

def fillA (k : Nat) : ByteArray := if k = 0 then ⟨#[128]⟩ else ⟨#[191]⟩
/-- is the text with so much behind it one rune? -/
def tryB (s : ByteArray) (k n : Nat) : Bool := oneB (s ++ ⟨(Lib.repeatL (lst (fillA k)) (n - s.size)).toArray⟩)
/-- the first bytes of some rune, but not all? -/
def begB (s : ByteArray) : Bool := (List.range 2).any fun k => (List.range 5).any fun n => decide (s.size < n) && tryB s k n
theorem begB_true {s : ByteArray} {k n : Nat} (hk : k < 2) (h1 : s.size < n) (h2 : n ≤ 4) (h : tryB s k n = true) : begB s = true := by
  unfold begB
  rw [List.any_eq_true]
  refine ⟨k, List.mem_range.2 hk, ?_⟩
  rw [List.any_eq_true]
  exact ⟨n, List.mem_range.2 (by omega), by rw [decide_eq_true h1, h]; rfl⟩
theorem begB_false {s : ByteArray} (h : ∀ k n, k < 2 → s.size < n → n ≤ 4 → tryB s k n = false) : begB s = false := by
  unfold begB
  rw [List.any_eq_false]
  intro k hk
  rw [Bool.not_eq_true, List.any_eq_false]
  intro n hn
  have hk := List.mem_range.1 hk
  have hn := List.mem_range.1 hn
  by_cases h1 : s.size < n
  · rw [h k n hk h1 (by omega)]; simp
  · rw [decide_eq_false h1]; simp
theorem fill_size (k : Nat) : (fillA k).size = 1 := by unfold fillA; split <;> rfl
theorem try_size (s : ByteArray) (k n : Nat) (h : s.size ≤ n) : (s ++ (⟨(Lib.repeatL (lst (fillA k)) (n - s.size)).toArray⟩ : ByteArray)).size = n := by
  rw [ByteArray.size_append]
  have : (⟨(Lib.repeatL (lst (fillA k)) (n - s.size)).toArray⟩ : ByteArray).size = (Lib.repeatL (lst (fillA k)) (n - s.size)).length := List.size_toArray
  rw [this, Lib.repeatL_length, lst_length, fill_size]
  omega

set_option maxRecDepth 100000 in
set_option maxHeartbeats 1000000 in
/-- begins -/
theorem begins_any (s : ByteArray) (w : World) (h0 : 1 ≤ s.size) (h3 : s.size ≤ 3) :
    Calls Try.prog 66 #[.string s] w fun e w' => e = .returned (.bool (begB s)) ∧ Below w.heap.size w w' := by
  have b0 := Blk.new w #[.string ⟨#[128]⟩, .string ⟨#[191]⟩] 9
  have hb : Below w.heap.size w (w.alloc (.cells #[.string ⟨#[128]⟩, .string ⟨#[191]⟩] 9)) := (Below.refl _ _).alloc (Nat.le_refl _) _
  go_enter Try.func66, Try.ntmps66
  go_wp2
  generalize hG : w.heap.size = G at *
  have HG := Lib.hid hG
  clear hG
  generalize w.alloc (.cells #[.string ⟨#[128]⟩, .string ⟨#[191]⟩] 9) = w1 at *
  go_loopw [4, 5, 8] (fun _ _ i wr => ∃ k : Nat, k ≤ 2 ∧ i = .int .i64 (k : Int) ∧ (∀ k' n, k' < k → s.size < n → n ≤ 4 → tryB s k' n = false) ∧ Blk wr G #[.string ⟨#[128]⟩, .string ⟨#[191]⟩] 9 ∧ Below G w wr) (fun _ _ i _ => 2 - (intOf i).toNat)
  case atStart => exact ⟨0, by omega, rfl, by omega, b0, hb⟩
  case round =>
    clear b0 hb
    obtain ⟨k, hk, rfl, hno, b0, hb⟩ := hrel
    have NO := Lib.hid hno
    clear hno
    by_cases hlt : k < 2
    · have g1 : (k : Int) < 2 := by omega
      have y0 : wr.cell? ⟨G, k, none⟩ = some (.string (fillA k)) := by
        rw [b0.cell]
        have : k = 0 ∨ k = 1 := by omega
        rcases this with rfl | rfl <;> rfl
      have ea : (⟨G, 0, none⟩ : Addr).add k = ⟨G, k, none⟩ := by simpa using addr_add G 0 k
      have fs := fill_size k
      have FS := Lib.hid fs
      clear fs
      have TS := Lib.hid (try_size s k)
      have TR := Lib.hid (show ∀ n, tryB s k n = oneB (s ++ ⟨(Lib.repeatL (lst (fillA k)) (n - s.size)).toArray⟩) from fun n => rfl)
      have BT := Lib.hid (fun n => begB_true (s := s) (k := k) (n := n) hlt)
      generalize fillA k = fl at *
      go_wp2
      go_loopw [5] (fun i wr => ∃ n : Nat, s.size < n ∧ n ≤ 5 ∧ i = .int .i64 (n : Int) ∧ (∀ n', s.size < n' → n' < n → tryB s k n' = false) ∧ Blk wr G #[.string ⟨#[128]⟩, .string ⟨#[191]⟩] 9 ∧ Below G w wr) (fun i _ => 5 - (intOf i).toNat)
      case atStart => exact ⟨s.size + 1, by omega, by omega, by go_num, fun n' h1 h2 => by omega, b0, hb⟩
      case round =>
        clear y0 b0 hb
        obtain ⟨n, hn1, hn2, rfl, hno, b0, hb⟩ := hrel
        have N2 := Lib.hid hno
        clear hno
        by_cases hn : n ≤ 4
        · have g2 : (n : Int) ≤ 4 := by omega
          obtain ⟨c, hc⟩ : ∃ c, n = s.size + c := ⟨n - s.size, by omega⟩
          have hw1 : IntKind.i64.wrap ((n : Int) - (s.size : Int)) = (c : Int) := by rw [IntWalk.i64_in _ (by omega)]; omega
          have en : n - s.size = c := by omega
          have T0 := TR.out n
          have ts := TS.out n (by omega)
          rw [en] at T0 ts
          have gl := b0.lt
          have B0 := Lib.hid (BT.out n hn1 hn)
          have NX : tryB s k n = false → ∀ n', s.size < n' → n' < n + 1 → tryB s k n' = false := fun h n' h1 h2 => by
            rcases Nat.lt_or_ge n' n with h3 | h3
            · exact N2.out n' h1 h3
            · obtain rfl : n' = n := by omega
              exact h
          replace NX := Lib.hid NX
          have T1 := Lib.hid T0
          have rc : c ≤ 9223372036854775807 := by omega
          have rl : fl.size * c ≤ 140737488355328 := by rw [FS.out]; omega
          rw [ByteArray.size_append] at ts
          have hsz : s.size + (⟨(Lib.repeatL (lst fl) c).toArray⟩ : ByteArray).size ≤ 9223372036854775807 := by omega
          have ts2 : s.size + (⟨(Lib.repeatL (lst fl) c).toArray⟩ : ByteArray).size ≤ 1000 := by omega
          clear T0 hc en ts
          go_wp2_with fail
          refine (Go.Proofs.Try.strings_Repeat fl c wr rc rl).mono ?_
          rintro e w2 ⟨rfl, hb2⟩
          replace b0 := b0.below hb2
          replace hb := hb.trans (hb2.mono (by omega))
          clear rc rl
          generalize (⟨(Lib.repeatL (lst fl) c).toArray⟩ : ByteArray) = rp at *
          go_wp2_with fail
          refine (single_any (s ++ rp) w2 (by rw [ByteArray.size_append]; exact ts2)).mono ?_
          rintro e w3 ⟨rfl, hb2⟩
          have gl2 := b0.lt
          replace b0 := b0.below hb2
          replace hb := hb.trans (hb2.mono (by omega))
          rw [← T1.out]
          cases ht : tryB s k n with
          | true =>
            have H0 := Lib.hid (B0.out ht)
            clear ht
            go_wp2
            go_returns
            exact ⟨by rw [H0.out]; rfl, by rw [HG.out]; exact hb⟩
          | false =>
            have H0 := Lib.hid (NX.out ht)
            clear ht
            go_wp2
            go_roundw
            case rel => exact ⟨n + 1, by omega, by omega, by go_num, H0.out, b0, hb⟩
            case measure => simp [intOf]; omega
        · have g2 : ¬ (n : Int) ≤ 4 := by omega
          go_wp2
          go_roundw
          case rel =>
            refine ⟨k + 1, by omega, by go_num, fun k' n' hk' h1 h2 => ?_, b0, hb⟩
            rcases Nat.lt_or_ge k' k with h | h
            · exact NO.out k' n' h h1 h2
            · obtain rfl : k' = k := by omega
              exact N2.out n' h1 (by omega)
          case measure => simp [intOf]; omega
    · obtain rfl : k = 2 := by omega
      have H0 := Lib.hid (begB_false (s := s) NO.out)
      go_wp2
      go_returns
      exact ⟨by rw [H0.out]; rfl, by rw [HG.out]; exact hb⟩
end Go.Proofs.Ytcambbnmeiolgaa
