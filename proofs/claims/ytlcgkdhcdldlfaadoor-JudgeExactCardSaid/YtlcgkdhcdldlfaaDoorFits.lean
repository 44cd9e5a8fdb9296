import Derived.Test.YtlcgkdhcdldlfaaDoorWalk
namespace Go.Proofs.YtlcgkdhcdldlfaaDoor
open Go.RowKit

/-- the i-th place of a way -/
def wv (way : List Int) (i : Nat) : Int := way.getD i 0
theorem wv_get (way : List Int) (i : Nat) (h : i < way.length) : way[i] = wv way i := by simp [wv, h]
def okAt (t : List Nd) (way : List Int) (i : Nat) : Prop := 0 ≤ wv way i ∧ wv way i < (t.length : Int) ∧ (i = 0 → wv way 0 = 0) ∧ (0 < i → par t (wv way i).toNat = wv way (i - 1))
instance (t : List Nd) (way : List Int) (i : Nat) : Decidable (okAt t way i) := by unfold okAt; infer_instance
/-- is it a way of the tree? -/
def isWay (t : List Nd) (way : List Int) : Prop := 0 < way.length ∧ ∀ i, i < way.length → okAt t way i
instance (t : List Nd) (way : List Int) : Decidable (isWay t way) := by unfold isWay; infer_instance
theorem isWay_bad {t : List Nd} {way : List Int} {i : Nat} (h : i < way.length) (h' : ¬ okAt t way i) : decide (isWay t way) = false := decide_eq_false fun k => h' (k.2 i h)
theorem okAt_next {t : List Nd} {way : List Int} {k : Nat} (h : ∀ j, j < k → okAt t way j) (h' : okAt t way k) : ∀ j, j < k + 1 → okAt t way j := fun j hj => by
  rcases Nat.lt_or_ge j k with h2 | h2
  · exact h j h2
  · obtain rfl : j = k := by omega
    exact h'

set_option maxRecDepth 100000 in
set_option maxHeartbeats 4000000 in
/-- fits -/
theorem fits_any (A B : Option Addr) (n c m d : Nat) (t : List Nd) (way : List Int) (w : World) (hl : t.length = n) (hm : n * 24 ≤ 140737488351232) (hx : Rd w A (NC t)) (hl2 : way.length = m) (hm2 : m * 8 ≤ 140737488351232) (hy : Rd w B (I64 way)) :
    Calls Tryd.prog 22 #[.slice A n c, .slice B m d] w fun e w' => e = .returned (.bool (decide (isWay t way))) ∧ Below w.heap.size w w' := by
  go_enter Tryd.func22, Tryd.ntmps22
  go_wp2
  go_loopw [5, 6, 9] (fun _ _ i wr => ∃ k : Nat, k ≤ m ∧ i = .int .i64 k ∧ (∀ j, j < k → okAt t way j) ∧ Below w.heap.size w wr) (fun _ _ i _ => m - (intOf i).toNat)
  case atStart => exact ⟨0, by omega, rfl, by omega, Below.refl _ _⟩
  case round =>
    obtain ⟨k, hk, rfl, hok, hb⟩ := hrel
    have OK := Lib.hid hok
    clear hok
    by_cases hlt : k < m
    · obtain ⟨b, o, rfl, y0⟩ := (hy.below hb).i64 k (by omega)
      rw [wv_get way k (by omega)] at y0
      have eb := addr_add b o k
      have hki : (k : Int) < (m : Int) := by omega
      have BAD := Lib.hid (isWay_bad (t := t) (show k < way.length by omega))
      have NX := Lib.hid (okAt_next OK.out)
      have hV := Lib.hid (rfl : okAt t way k = okAt t way k)
      by_cases c1 : wv way k < 0
      · have H0 := Lib.hid (BAD.out (fun h => absurd h.1 (by omega)))
        generalize wv way k = V at *
        have d1 : decide (V < 0) = true := decide_eq_true c1
        clear BAD NX hV
        go_wp2
        go_quiet (fail)
        all_goals go_wp2
        go_returns
        exact ⟨by rw [H0.out]; rfl, bdraw hb _⟩
      · by_cases c2 : (n : Int) ≤ wv way k
        · have H0 := Lib.hid (BAD.out (fun h => absurd h.2.1 (by omega)))
          generalize wv way k = V at *
          have d1 : decide (V < 0) = false := decide_eq_false c1
          have d2 : decide ((n : Int) ≤ V) = true := decide_eq_true c2
          clear BAD NX hV
          go_wp2
          go_quiet (fail)
          all_goals go_wp2
          go_returns
          exact ⟨by rw [H0.out]; rfl, bdraw hb _⟩
        · obtain ⟨v, hv⟩ : ∃ v : Nat, wv way k = (v : Int) := ⟨(wv way k).toNat, by omega⟩
          have d1 : decide ((v : Int) < 0) = false := decide_eq_false (by omega)
          have d2 : decide ((n : Int) ≤ (v : Int)) = false := decide_eq_false (by omega)
          have d2' : decide (n ≤ v) = false := decide_eq_false (by omega)
          have hvn : v < n := by omega
          have hvi : (v : Int) < (n : Int) := by omega
          have hok : okAt t way k ↔ ((k = 0 → wv way 0 = 0) ∧ (0 < k → par t v = wv way (k - 1))) := by
            unfold okAt
            rw [hv, Int.toNat_natCast]
            constructor
            · exact fun h => h.2.2
            · exact fun h => ⟨by omega, by omega, h⟩
          rw [hv] at y0
          by_cases hk0 : k = 0
          · subst hk0
            by_cases c3 : v = 0
            · subst c3
              have N1 := Lib.hid (NX.out (hok.2 ⟨fun _ => hv, fun h => absurd h (by omega)⟩))
              clear hok BAD NX hV hv
              rw [Nat.add_zero] at y0
              have d5 : decide (n = 0) = false := decide_eq_false (by omega)
              have d6 : decide ((n : Int) ≤ 0) = false := decide_eq_false (by omega)
              go_wp2
              go_quiet (fail)
              all_goals go_wp2
              go_roundw
              case rel => exact ⟨1, by omega, by go_num, N1.out, bdraw hb _⟩
              case measure => simp [intOf]; omega
            · have H0 := Lib.hid (BAD.out (fun h => absurd ((hok.1 h).1 rfl) (by omega)))
              have hne : ((v : Int) != 0) = true := by simpa using c3
              clear hok BAD NX hV hv
              rw [Nat.add_zero] at y0
              go_wp2
              go_quiet (fail)
              all_goals go_wp2
              go_returns
              exact ⟨by rw [H0.out]; rfl, bdraw hb _⟩
          · have hkz : ((k : Int) == 0) = false := by simpa using hk0
            have hkp : decide (0 < (k : Int)) = true := decide_eq_true (by omega)
            have hkp' : decide (0 < k) = true := decide_eq_true (by omega)
            have hkpp : 0 < k := by omega
            have z0 := (hy.below hb).i64At (k - 1) (by omega)
            rw [wv_get way (k - 1) (by omega)] at z0
            have ec : (⟨b, o, none⟩ : Addr).add (k - 1) = ⟨b, o + (k - 1), none⟩ := addr_add b o (k - 1)
            have hw1 : IntKind.i64.wrap ((k : Int) - 1) = (k : Int) - 1 := IntWalk.i64_in _ (by omega)
            have ht1 : ((k : Int) - 1).toNat = k - 1 := by omega
            have hk1 : 0 ≤ (k : Int) - 1 := by omega
            have hk2 : (k : Int) - 1 < (m : Int) := by omega
            obtain ⟨b', o', rfl, u0, u1, u2⟩ := (hx.below hb).nd v (by omega)
            have ea := addr_add b' o' (v * 3)
            by_cases c4 : par t v = wv way (k - 1)
            · have N1 := Lib.hid (NX.out (hok.2 ⟨fun h => absurd h hk0, fun _ => c4⟩))
              rw [c4] at u0
              clear hok BAD NX hV hv c4 hk0
              generalize wv way (k - 1) = X at *
              go_wp2
              go_quiet (fail)
              all_goals go_wp2
              go_roundw
              case rel => exact ⟨k + 1, by omega, by go_num, N1.out, bdraw hb _⟩
              case measure => simp [intOf]; omega
            · have H0 := Lib.hid (BAD.out (fun h => c4 ((hok.1 h).2 hkpp)))
              clear hok BAD NX hV hv hk0
              generalize wv way (k - 1) = X at *
              generalize par t v = Y at *
              have hne : (Y != X) = true := by simpa using c4
              clear c4
              go_wp2
              go_quiet (fail)
              all_goals go_wp2
              go_returns
              exact ⟨by rw [H0.out]; rfl, bdraw hb _⟩
    · obtain rfl : m = k := by omega
      by_cases h0 : 0 < m
      · have H0 := Lib.hid (show decide (isWay t way) = true from decide_eq_true ⟨by omega, fun i hi => OK.out i (by omega)⟩)
        have hd : decide (0 < (m : Int)) = true := decide_eq_true (by omega)
        go_wp2
        go_returns
        exact ⟨by rw [H0.out]; rfl, hb⟩
      · obtain rfl : m = 0 := by omega
        have H0 := Lib.hid (show decide (isWay t way) = false from decide_eq_false fun h => absurd h.1 (by omega))
        go_wp2
        go_returns
        exact ⟨by rw [H0.out]; rfl, hb⟩
end Go.Proofs.YtlcgkdhcdldlfaaDoor
