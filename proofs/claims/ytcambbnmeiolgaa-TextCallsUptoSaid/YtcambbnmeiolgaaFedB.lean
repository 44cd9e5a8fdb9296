import Derived.Test.YtcambbnmeiolgaaFedW
namespace Go.Proofs.Ytcambbnmeiolgaa
open Go.RowKit
set_option maxRecDepth 100000 in
set_option maxHeartbeats 2000000 in
/-- Feed, where a token is outside -/
theorem feed_bad (A : Option Addr) (n c : Nat) (l : List Int) (w : World) (p : Nat) (wds : List (List Int)) (sts : List ByteArray) (t : List UInt8) (e : Bool) (h : Strm w p wds sts t e) (hl : l.length = n) (hn : n ≤ 1099511627776) (hx : Rd w A (I64 l)) (hno : ¬ okTs wds.length l) :
    Calls Try.prog 18 #[.pointer (some ⟨p, 0, none⟩), .slice A n c] w fun en w' => en = .returned (.tuple #[.slice none 0 0, .int .i64 52]) ∧ w = w' := by
  obtain ⟨wv, sv, T, hS, hb0, hT⟩ := h
  obtain ⟨vals, hwo, _⟩ := hS.wo
  obtain ⟨wA, wc, rfl, _, _⟩ := own_rd hwo
  have a0 : (⟨p, 0, none⟩ : Addr).add 0 = ⟨p, 0, none⟩ := by simpa using addr_add p 0 0
  have x0 : w.cell? ⟨p, 0, none⟩ = some (.slice wA wds.length wc) := hb0.cell _
  have HX := Lib.hid hx
  have HL := Lib.hid hl
  have NO := Lib.hid hno
  clear hS hx hno hb0 hwo hT hl
  go_enter Try.func18, Try.ntmps18
  go_wp2
  go_loop [7, 14] (fun _ i => ∃ k : Nat, k ≤ n ∧ i = .int .i64 (k : Int) ∧ okTs wds.length (l.take k)) (fun _ i => n - (intOf i).toNat)
  case atStart => exact ⟨0, by omega, rfl, fun x hx => by simp at hx⟩
  case round =>
    obtain ⟨k, hk, rfl, hok⟩ := hrel
    have OK := Lib.hid hok
    clear hok
    by_cases hlt : k < n
    · obtain ⟨b, of, rfl, y0⟩ := HX.out.i64 k (by rw [HL.out]; exact hlt)
      have ea := addr_add b of k
      have hkn : (k : Int) < (n : Int) := by omega
      have TS := Lib.hid (List.take_succ_eq_append_getElem (show k < l.length by rw [HL.out]; exact hlt))
      generalize l[k]'(by rw [HL.out]; exact hlt) = v at *
      by_cases h1 : v < 0
      · have d1 : decide (v < 0) = true := decide_eq_true h1
        go_wp2
        go_returns
        exact ⟨rfl, rfl⟩
      · by_cases h2 : (wds.length : Int) ≤ v
        · have d1 : decide (v < 0) = false := decide_eq_false h1
          have d2 : decide ((wds.length : Int) ≤ v) = true := decide_eq_true h2
          go_wp2
          go_returns
          exact ⟨rfl, rfl⟩
        · have d1 : decide (v < 0) = false := decide_eq_false h1
          have d2 : decide ((wds.length : Int) ≤ v) = false := decide_eq_false h2
          go_wp2
          go_round
          case rel =>
            refine ⟨k + 1, by omega, by go_num, ?_⟩
            rw [TS.out]
            intro x hx
            rcases List.mem_append.1 hx with hx | hx
            · exact OK.out x hx
            · rw [List.mem_singleton.1 hx]; omega
          case measure => simp [intOf]; omega
    · obtain rfl : k = n := by omega
      exfalso
      have := OK.out
      rw [List.take_of_length_le (by rw [HL.out]; omega)] at this
      exact NO.out this
end Go.Proofs.Ytcambbnmeiolgaa
