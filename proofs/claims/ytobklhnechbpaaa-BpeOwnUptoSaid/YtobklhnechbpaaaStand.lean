import Derived.Test.YtobklhnechbpaaaJoins
namespace Go.Proofs.Ytobklhnechbpaaa
open Go.RowKit

theorem atP_of {l : List Int} {p : Int × Int} {i : Nat} (h1 : i < l.length) (h2 : i + 1 < l.length) : atP l p i = decide (l[i] = p.1 ∧ l[i + 1] = p.2) := by
  simp [atP, List.getElem?_eq_getElem h1, List.getElem?_eq_getElem h2]
set_option maxRecDepth 100000 in
set_option maxHeartbeats 2000000 in
/-- augurref05.Stands -/
theorem stands_any (A : Option Addr) (n c : Nat) (l : List Int) (pa pb : Int) (w : World) (hl : l.length = n) (hb0 : n ≤ 8388608) (hx : Rd w A (I64 l)) :
    Calls Try.prog 31 #[.slice A n c, .agg #[.int .i64 pa, .int .i64 pb]] w fun e w' => e = .returned (.bool (stands l (pa, pb))) ∧ Below w.heap.size w w' := by
  have h0 : Below w.heap.size w (w.alloc (.cells #[.int .i64 pa, .int .i64 pb] 51)) := by go_grown
  have q0 := Blk.new w #[.int .i64 pa, .int .i64 pb] 51
  have hx1 := hx.below h0
  go_enter Try.func31, Try.ntmps31
  go_wp2
  generalize w.alloc (.cells #[.int .i64 pa, .int .i64 pb] 51) = w1 at *
  go_loopw [5] (fun i wr => ∃ k : Nat, k ≤ n ∧ i = .int .i64 ((k : Int) + 1) ∧ (∀ j, j < k → atP l (pa, pb) j = false) ∧ Below w1.heap.size w1 wr) (fun i _ => n + 1 - (intOf i).toNat)
  case atStart => exact ⟨0, by omega, rfl, by intro j hj; omega, Below.refl _ _⟩
  case round =>
    obtain ⟨k, hk, rfl, hno, hb⟩ := hrel
    have NO := Lib.hid hno
    clear hno
    have x0 : wr.cell? ⟨w.heap.size, 0, none⟩ = some (.int .i64 pa) := (q0.below hb).cell _
    have x1 : wr.cell? ⟨w.heap.size, 1, none⟩ = some (.int .i64 pb) := (q0.below hb).cell _
    by_cases hlt : k + 1 < n
    · obtain ⟨b, o, rfl, y1⟩ := (hx1.below hb).i64 k (by omega)
      obtain ⟨b', o', he, y2⟩ := (hx1.below hb).i64 (k + 1) (by omega)
      obtain ⟨rfl, rfl⟩ : b = b' ∧ o = o' := by simpa using he
      clear he
      have ea := addr_add b o k
      have ea2 := addr_add b o (k + 1)
      have hat := atP_of (p := (pa, pb)) (show k < l.length by omega) (show k + 1 < l.length by omega)
      generalize l[k]'(by omega) = x at *
      generalize l[k + 1]'(by omega) = y at *
      have hi1 : ((k : Int) + 1).toNat = k + 1 := by omega
      have hb1 : (k : Int) + 1 < (n : Int) := by omega
      have hb2 : 0 ≤ (k : Int) + 1 := by omega
      have hb3 : (k : Int) < (n : Int) := by omega
      have hb4 : k < n := by omega
      have hwk : IntKind.i64.wrap (k : Int) = (k : Int) := IntWalk.i64_in _ (by omega)
      have hs1 : (k : Int) + 1 - 1 = (k : Int) := by omega
      by_cases e1 : x = pa
      · by_cases e2 : y = pb
        · have hr : stands l (pa, pb) = true := (stands_iff _ _).2 ⟨k, by omega, by rw [hat]; simp [e1, e2]⟩
          have HR := Lib.hid hr
          clear hr hat
          subst e1 e2
          go_wp2
          go_quiet (fail)
          all_goals go_wp2
          go_returns
          exact ⟨by rw [HR.out]; rfl, bthen h0 (bdraw hb _)⟩
        · have hr : atP l (pa, pb) k = false := by rw [hat]; simp [e2]
          have HR := Lib.hid hr
          clear hr hat
          have e2' : (y == pb) = false := by simpa using e2
          subst e1
          go_wp2
          go_quiet (fail)
          all_goals go_wp2
          go_roundw
          case rel => exact ⟨k + 1, by omega, by go_num, fun j hj => by
            rcases Nat.lt_or_ge j k with h | h
            · exact NO.out j h
            · obtain rfl : j = k := by omega
              exact HR.out, bdraw hb _⟩
          case measure => simp [intOf]; omega
      · have hr : atP l (pa, pb) k = false := by rw [hat]; simp [e1]
        have HR := Lib.hid hr
        clear hr hat
        have e1' : (x == pa) = false := by simpa using e1
        go_wp2
        go_quiet (fail)
        all_goals go_wp2
        go_roundw
        case rel => exact ⟨k + 1, by omega, by go_num, fun j hj => by
          rcases Nat.lt_or_ge j k with h | h
          · exact NO.out j h
          · obtain rfl : j = k := by omega
            exact HR.out, bdraw hb _⟩
        case measure => simp [intOf]; omega
    · have hr : stands l (pa, pb) = false := by
        cases hq : stands l (pa, pb) with
        | false => rfl
        | true =>
          obtain ⟨i, hi, h⟩ := (stands_iff _ _).1 hq
          rw [NO.out i (by omega)] at h
          cases h
      have HR := Lib.hid hr
      clear hr
      go_wp2
      go_returns
      exact ⟨by rw [HR.out]; rfl, bthen h0 hb⟩
end Go.Proofs.Ytobklhnechbpaaa
