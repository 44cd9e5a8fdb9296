import Derived.Test.YtlcgkdhcdldlfaaDoorCleanP
import Derived.Test.YtlcgkdhcdldlfaaDoorMoves
import Derived.Test.YtlcgkdhcdldlfaaDoorInts
namespace Go.Proofs.YtlcgkdhcdldlfaaDoor
open Go.RowKit

theorem rp_get (r : List RNd) (i : Nat) (h : i < r.length) : r[i] = (rpar r i, rtk r i) := by simp [rpar, rtk, h]
theorem Rd.rn {w : World} {A : Option Addr} {r : List RNd} (h : Rd w A (PR r)) (i : Nat) (hi : i < r.length) :
    ∃ b o, A = some ⟨b, o, none⟩ ∧ w.cell? ⟨b, o + i * 2, none⟩ = some (.int .i64 (rpar r i)) ∧ w.cell? ⟨b, o + i * 2 + 1, none⟩ = some (.int .i64 (rtk r i)) := by
  obtain ⟨b, o, e, c0, c1⟩ := h.pr i hi
  rw [rp_get r i hi] at c0 c1
  exact ⟨b, o, e, c0, c1⟩
theorem wayR_len (r : List RNd) (v : Int) : ∀ i, (wayR r v i).1.length ≤ i + 1 := by
  intro i
  induction i using Nat.strongRecOn with
  | _ i ih =>
    by_cases hb : badR r v i
    · rw [wayR_bad hb]; simp
    · have hb' := hb
      unfold badR at hb'
      by_cases h1 : rpar r i = -1
      · rw [wayR_root hb h1]; simp
      · rw [wayR_step hb h1]
        have := ih (rpar r i).toNat (by omega)
        simp
        omega
theorem wayR_lt (r : List RNd) (v : Int) : ∀ i, (wayR r v i).2 = true → ∀ x ∈ (wayR r v i).1, x < v := by
  intro i
  induction i using Nat.strongRecOn with
  | _ i ih =>
    intro h
    by_cases hb : badR r v i
    · rw [wayR_bad hb] at h; cases h
    · have hb' := hb
      unfold badR at hb'
      by_cases h1 : rpar r i = -1
      · rw [wayR_root hb h1]
        intro x hx
        simp at hx
        omega
      · rw [wayR_step hb h1] at h ⊢
        intro x hx
        simp only at hx
        rcases List.mem_append.1 hx with hx | hx
        · exact ih (rpar r i).toNat (by omega) h x hx
        · simp at hx
          omega

def WayOut (w : World) (r : List RNd) (v : Int) (i : Nat) (e : Ending) (w' : World) : Prop :=
  ∃ u, e = .returned (.tuple #[u, .bool (wayR r v i).2]) ∧ w'.ownsRow w.heap.size 3 1 u (wayR r v i).1.length (I64 (wayR r v i).1) ∧ Below w.heap.size w w'
theorem wayOut_bad {w w' : World} {r : List RNd} {v : Int} {i : Nat} (h : badR r v i) (hb : Below w.heap.size w w') : WayOut w r v i (.returned (.tuple #[.slice none 0 0, .bool false])) w' := by
  refine ⟨.slice none 0 0, by rw [wayR_bad h], ?_, hb⟩
  rw [wayR_bad h]
  exact World.ownsRow_nil _ _ _ _

set_option maxRecDepth 100000 in
set_option maxHeartbeats 2000000 in
/-- augurref14.way -/
theorem wayR_any (A : Option Addr) (n c : Nat) (r : List RNd) (v : Int) (hl : r.length = n) (hm : n ≤ 96) : ∀ (i : Nat) (_ : i < n) (w : World) (_ : Rd w A (PR r)),
    Calls Tryd.prog 23 #[.slice A n c, .int .i64 (i : Int), .int .i64 v] w (WayOut w r v i) := by
  intro i
  induction i using Nat.strongRecOn with
  | _ i ih =>
    intro hi w hx
    obtain ⟨b, o, rfl, u0, u1⟩ := hx.rn i (by omega)
    have ea := addr_add b o (i * 2)
    have ea1 := addr_add b (o + i * 2) 1
    have hii : (i : Int) < (n : Int) := by omega
    have IH := Lib.hid ih
    have HX := Lib.hid hx
    have BAD := Lib.hid (fun (w' : World) (h : badR r v i) (hb : Below w.heap.size w w') => wayOut_bad h hb)
    have hbad : badR r v i ↔ (rtk r i < 1 ∨ v ≤ rtk r i ∨ rpar r i < -1 ∨ (i : Int) ≤ rpar r i) := Iff.rfl
    have hroot : ¬ badR r v i → rpar r i = -1 → wayR r v i = ([rtk r i], true) := wayR_root
    have hstep : ¬ badR r v i → rpar r i ≠ -1 → wayR r v i = ((wayR r v (rpar r i).toNat).1 ++ [rtk r i], (wayR r v (rpar r i).toNat).2) := wayR_step
    generalize hP : rpar r i = P at *
    generalize hX : rtk r i = X at *
    clear hP hX ih hx
    have BD := Lib.hid hbad
    have RO := Lib.hid hroot
    have ST := Lib.hid hstep
    clear hbad hroot hstep
    have bl0 : Below w.heap.size w (w.alloc (.cells #[.int .i64 P, .int .i64 X] 71)) := (Below.refl _ _).alloc (Nat.le_refl _) _
    by_cases c1 : X < 1
    · have H0 := Lib.hid (BD.out.2 (.inl c1))
      have d1 : decide (X < 1) = true := decide_eq_true c1
      go_enter Tryd.func23, Tryd.ntmps23
      go_wp2
      go_returns
      exact BAD.out _ H0.out bl0
    · have d1 : decide (X < 1) = false := decide_eq_false c1
      by_cases c2 : v ≤ X
      · have H0 := Lib.hid (BD.out.2 (.inr (.inl c2)))
        have d2 : decide (v ≤ X) = true := decide_eq_true c2
        go_enter Tryd.func23, Tryd.ntmps23
        go_wp2
        go_returns
        exact BAD.out _ H0.out bl0
      · have d2 : decide (v ≤ X) = false := decide_eq_false c2
        by_cases c3 : P < -1
        · have H0 := Lib.hid (BD.out.2 (.inr (.inr (.inl c3))))
          have d3 : decide (P < -1) = true := decide_eq_true c3
          go_enter Tryd.func23, Tryd.ntmps23
          go_wp2
          go_returns
          exact BAD.out _ H0.out bl0
        · have d3 : decide (P < -1) = false := decide_eq_false c3
          by_cases c4 : (i : Int) ≤ P
          · have H0 := Lib.hid (BD.out.2 (.inr (.inr (.inr c4))))
            have d4 : decide ((i : Int) ≤ P) = true := decide_eq_true c4
            go_enter Tryd.func23, Tryd.ntmps23
            go_wp2
            go_returns
            exact BAD.out _ H0.out bl0
          · have hnb : ¬ badR r v i := fun h => by rcases BD.out.1 h with h | h | h | h <;> omega
            have NB := Lib.hid hnb
            clear hnb
            by_cases c5 : P = -1
            · subst c5
              have R0 := Lib.hid (RO.out NB.out rfl)
              have d4 : decide ((i : Int) ≤ -1) = false := decide_eq_false c4
              go_enter Tryd.func23, Tryd.ntmps23
              go_wp2
              go_returns
              refine ⟨.slice (some ⟨w.heap.size + 1, 0, none⟩) 1 1, by rw [R0.out]; rfl, ?_, bl0.alloc bl0.size _⟩
              rw [R0.out]
              simpa [I64] using World.ownsRow_lit (base := w.heap.size) (e := 3) (size := 1) (w.alloc (.cells #[.int .i64 (-1), .int .i64 X] 71)) #[.int .i64 X] 1 bl0.size (by unfold maxLen; omega) rfl
            · obtain ⟨p, rfl⟩ : ∃ p : Nat, P = (p : Int) := ⟨P.toNat, by omega⟩
              have S0 : wayR r v i = ((wayR r v p).1 ++ [X], (wayR r v p).2) := by
                have := ST.out NB.out (by omega)
                rwa [Int.toNat_natCast] at this
              replace S0 := Lib.hid S0
              have hpi : p < i := by omega
              have d4 : decide ((i : Int) ≤ (p : Int)) = false := decide_eq_false (by omega)
              have d4' : decide (i ≤ p) = false := decide_eq_false (by omega)
              have d5 : ((p : Int) == -1) = false := by simp
              have hB := Blk.new w #[.int .i64 (p : Int), .int .i64 X] 71
              have ln := wayR_len r v p
              clear c5
              go_enter Tryd.func23, Tryd.ntmps23
              go_wp2_with fail
              generalize w.alloc (.cells #[.int .i64 (p : Int), .int .i64 X] 71) = w1 at *
              refine (IH.out p hpi (by omega) w1 (HX.out.below bl0)).mono ?_
              rintro e w2 ⟨u, rfl, ou, hb2⟩
              have hz : w.heap.size ≤ w1.heap.size := bl0.size
              have ou' := own_base ou hz
              have hb3 := bthen bl0 hb2
              have hB2 := hB.below hb2
              have x1 : w2.cell? ⟨w.heap.size, 1, none⟩ = some (.int .i64 X) := hB2.cell _
              obtain ⟨uA, uc, rfl, _, _⟩ := own_rd ou
              clear ou hB hB2 hb2 bl0
              generalize (wayR r v p).1 = L at *
              generalize (wayR r v p).2 = F at *
              go_wp2_with (at_builtin; refine app (w0 := w) w.heap.size rfl _ _ 23 3 (.int .i64 0) 1 8 rfl Tryd.underlying23 info3 rfl (by decide) (by decide) (.slice uA L.length uc) L.length (I64 L) #[.int .i64 X] rfl rfl rfl (by simp [Value.oneCell']) ou' hb3 hb3.size (by omega) ?_; intro g cap w4 ow hb4 _ _)
              go_returns
              refine ⟨.slice (some ⟨g, 0, none⟩) (L.length + 1) cap, by rw [S0.out]; rfl, ?_, hb4⟩
              rw [S0.out]
              simp only [List.length_append, List.length_cons, List.length_nil]
              rw [← I64_snoc]
              exact ow

/-- slices of numbers, each in memory of its own -/
def WL (w : World) (base : Nat) (vals : List Value) (ls : List (List Int)) : Prop := vals.length = ls.length ∧ ∀ (i : Nat) (v : Value), vals[i]? = some v → w.ownsRow base 3 1 v (ls.getD i []).length (I64 (ls.getD i []))
theorem WL.nil (w : World) (base : Nat) : WL w base [] [] := ⟨rfl, fun i v h => by simp at h⟩
theorem WL.below {w w1 : World} {base : Nat} {vals : List Value} {ls : List (List Int)} (h : WL w base vals ls) (hb : Below w.heap.size w w1) : WL w1 base vals ls := ⟨h.1, fun i v hv => own_below (h.2 i v hv) hb⟩
theorem WL.at {w : World} {base : Nat} {vals : List Value} {ls : List (List Int)} (h : WL w base vals ls) (i : Nat) (hi : i < ls.length) : ∃ A c, vals[i]? = some (.slice A (ls.getD i []).length c) ∧ (ls.getD i []).length ≤ c ∧ Rd w A (I64 (ls.getD i [])) ∧ (0 < (ls.getD i []).length → ∃ g, A = some ⟨g, 0, none⟩) := by
  have hl := h.1
  have e : vals[i]? = some (vals[i]'(by omega)) := List.getElem?_eq_getElem (by omega)
  have ho := h.2 i _ e
  obtain ⟨A, c, h1, h2, h3⟩ := own_rd ho
  refine ⟨A, c, by rw [e, h1], h2, h3, fun h0 => ?_⟩
  obtain ⟨g, cap, hg⟩ := own_some ho h0
  rw [h1] at hg
  injection hg with hg
  exact ⟨g, hg⟩
theorem WL.grown {w w1 : World} {base base' : Nat} {e size n : Nat} {v : Value} {xs : List Value} {vals : List Value} {ls : List (List Int)} (h : WL w base vals ls) (hv : w.ownsRow base' e size v n xs) (he : 3 ≠ e) (hg : w.grownBy w1 v.ownBlock) : WL w1 base vals ls :=
  ⟨h.1, fun i u hu => (h.2 i u hu).kept hg (own_type_ne (h.2 i u hu) hv he)⟩
theorem WL.snoc {w : World} {base : Nat} {vals : List Value} {ls : List (List Int)} {v : Value} {l : List Int} (h : WL w base vals ls) (ho : w.ownsRow base 3 1 v l.length (I64 l)) : WL w base (vals ++ [v]) (ls ++ [l]) := by
  refine ⟨by simp [h.1], fun i u hu => ?_⟩
  have hl := h.1
  rcases Nat.lt_or_ge i vals.length with hi | hi
  · rw [List.getElem?_append_left hi] at hu
    have e : (ls ++ [l]).getD i [] = ls.getD i [] := by simp [List.getElem?_append_left (show i < ls.length by omega)]
    rw [e]
    exact h.2 i u hu
  · have hlt := (List.getElem?_eq_some_iff.1 hu).1
    simp at hlt
    obtain rfl : i = vals.length := by omega
    simp at hu
    subst hu
    have e : (ls ++ [l]).getD vals.length [] = l := by rw [hl]; simp
    rw [e]
    exact ho
theorem placeI_some {ls : List (List Int)} {xs : List Int} {k : Nat} (hk : k < ls.length) (h : ls.getD k [] = xs) (hno : ∀ j, j < k → ls.getD j [] ≠ xs) : placeI ls xs = (k : Int) := by
  have hm : xs ∈ ls := h ▸ getD_mem hk
  have hi := List.idxOf_lt_length_of_mem hm
  have e : ls.getD (ls.idxOf xs) [] = xs := by simp [hi]
  unfold placeI
  rw [if_pos hm]
  rcases Nat.lt_trichotomy (ls.idxOf xs) k with h1 | h1 | h1
  · exact absurd e (hno _ h1)
  · rw [h1]
  · exfalso
    have := List.not_of_lt_findIdx h1
    simp at this
    exact this ((show ls[k] = ls.getD k [] by simp [hk]).trans h)
theorem placeI_none {ls : List (List Int)} {xs : List Int} (hno : ∀ j, j < ls.length → ls.getD j [] ≠ xs) : placeI ls xs = -1 := by
  unfold placeI
  rw [if_neg]
  intro hm
  obtain ⟨j, hj, e⟩ := mem_getD hm
  exact hno j hj e
theorem placeI_neg (ls : List (List Int)) (xs : List Int) : placeI ls xs < 0 ↔ xs ∉ ls := by
  unfold placeI
  by_cases h : xs ∈ ls
  · rw [if_pos h]
    constructor
    · intro h1; omega
    · intro h1; exact absurd h h1
  · rw [if_neg h]
    exact ⟨fun _ => h, fun _ => by omega⟩
theorem placeI_le (ls : List (List Int)) (xs : List Int) : -1 ≤ placeI ls xs ∧ placeI ls xs < ((ls.length : Nat) : Int) + 1 := by
  unfold placeI
  by_cases h : xs ∈ ls
  · rw [if_pos h]
    have := List.idxOf_lt_length_of_mem h
    omega
  · rw [if_neg h]
    omega

set_option maxRecDepth 100000 in
set_option maxHeartbeats 1000000 in
/-- augurref14.place -/
theorem place_any (A B : Option Addr) (n c m d base : Nat) (vals : List Value) (ls : List (List Int)) (xs : List Int) (w : World) (hl : ls.length = n) (hm : n ≤ 140737488355328) (hx : Rd w A vals) (hv : WL w base vals ls) (hsm : ∀ i, i < n → (ls.getD i []).length ≤ 100000) (hl2 : xs.length = m) (hy : Rd w B (I64 xs)) :
    Calls Tryd.prog 16 #[.slice A n c, .slice B m d] w fun e w' => e = .returned (.int .i64 (placeI ls xs)) ∧ Below w.heap.size w w' := by
  go_enter Tryd.func16, Tryd.ntmps16
  go_wp2
  go_loopw [5, 6] (fun i _ wr => ∃ k : Nat, k ≤ n ∧ i = .int .i64 k ∧ (∀ j, j < k → ls.getD j [] ≠ xs) ∧ Below w.heap.size w wr) (fun i _ _ => n - (intOf i).toNat)
  case atStart => exact ⟨0, by omega, rfl, by omega, Below.refl _ _⟩
  case round =>
    obtain ⟨k, hk, rfl, hno, hb⟩ := hrel
    have NO := Lib.hid hno
    clear hno
    by_cases hlt : k < n
    · obtain ⟨A', c', hu, _, hr, _⟩ := (hv.below hb).at k (by omega)
      have hvl := hv.1
      obtain ⟨b, o, rfl, y0⟩ := (hx.below hb).at k (by omega)
      rw [← List.getElem?_eq_getElem, hu] at y0
      have ea := addr_add b o k
      have hs := hsm k hlt
      have SM := Lib.hid (fun h => placeI_some (xs := xs) (show k < ls.length by omega) h NO.out)
      have NX : ls.getD k [] ≠ xs → ∀ j, j < k + 1 → ls.getD j [] ≠ xs := fun h j hj => by
        rcases Nat.lt_or_ge j k with h2 | h2
        · exact NO.out j h2
        · obtain rfl : j = k := by omega
          exact h
      replace NX := Lib.hid NX
      clear hu
      generalize ls.getD k [] = L at *
      go_wp2_with fail
      refine (eqInts_any A' B L.length m c' d L xs rfl hl2 (by omega) wr hr (hy.below hb)).mono ?_
      rintro e w1 ⟨rfl, hb1⟩
      replace hb := bthen hb hb1
      clear hb1 hr
      by_cases he : L = xs
      · rw [decide_eq_true he]
        have H0 := Lib.hid (SM.out he)
        clear he
        go_wp2
        go_returns
        exact ⟨by rw [H0.out]; rfl, hb⟩
      · rw [decide_eq_false he]
        have H0 := Lib.hid (NX.out he)
        clear he
        go_wp2
        go_roundw
        case rel => exact ⟨k + 1, by omega, by go_num, H0.out, hb⟩
        case measure => simp [intOf]; omega
    · have H0 := Lib.hid (placeI_none (ls := ls) (xs := xs) (fun j hj => NO.out j (by omega)))
      go_wp2
      go_returns
      exact ⟨by rw [H0.out]; rfl, hb⟩

theorem info23 : (Tryd.prog.info? 23).map (fun i => (i.zero, i.size, i.bytes)) = some (some (.slice none 0 0), 1, 24) := by kernel_rfl
theorem addW_len (r : List RNd) (v : Int) (d : Nat) (ws : List (List Int)) (i : Nat) : (addW r v d ws i).length ≤ ws.length + 1 := by
  unfold addW
  split <;> simp
theorem addD_len (r : List RNd) (v : Int) (ws : List (List Int)) (d : Nat) : ∀ k, (addD r v ws d k).length ≤ ws.length + k := by
  intro k
  induction k with
  | zero => exact Nat.le_refl _
  | succ k ih =>
    rw [addD_succ]
    have := addW_len r v d (addD r v ws d k) k
    omega
theorem waysD_len (r : List RNd) (v : Int) (h : r.length ≤ 96) : ∀ d, (waysD r v d).length ≤ 96 * d := by
  intro d
  induction d with
  | zero => exact Nat.le_refl _
  | succ d ih =>
    have := addD_len r v (waysD r v d) (d + 1) r.length
    unfold waysD
    omega
/-- the ways of depths below D -/
def wD (r : List RNd) (v : Int) (D : Nat) : List (List Int) := waysD r v (D - 1)
theorem wD_next (r : List RNd) (v : Int) {D : Nat} (h : 1 ≤ D) : addD r v (wD r v D) D r.length = wD r v (D + 1) := by
  obtain ⟨d, rfl⟩ : ∃ d, D = d + 1 := ⟨D - 1, by omega⟩
  rfl
theorem wD_len (r : List RNd) (v : Int) {D : Nat} (h : r.length ≤ 96) (hD : D ≤ 97) : (wD r v D).length ≤ 9216 := by
  have := waysD_len r v h (D - 1)
  unfold wD
  omega
theorem addD_small (r : List RNd) (v : Int) {D : Nat} (k i : Nat) (h1 : 1 ≤ D) (hr : r.length ≤ 96) (hk : k ≤ r.length) : ((addD r v (wD r v D) D k).getD i []).length ≤ 100000 := by
  obtain ⟨d, rfl⟩ : ∃ d, D = d + 1 := ⟨D - 1, by omega⟩
  have hok := addD_ok (waysD_ok r v d).next k hk
  unfold wD
  rw [Nat.add_sub_cancel]
  rcases Nat.lt_or_ge i (addD r v (waysD r v d) (d + 1) k).length with h | h
  · obtain ⟨j, hj, hg, he⟩ := hok.good _ (getD_mem h)
    rw [← he]
    have := wayR_len r v j
    omega
  · rw [List.getD_eq_getElem?_getD, List.getElem?_eq_none h]
    simp

set_option maxRecDepth 100000 in
set_option maxHeartbeats 4000000 in
/-- augurref14.Ways -/
theorem ways_any (A : Option Addr) (n c : Nat) (r : List RNd) (v : Int) (w : World) (hl : r.length = n) (hm : n ≤ 96) (hx : Rd w A (PR r)) :
    Calls Tryd.prog 15 #[.slice A n c, .int .i64 v] w fun e w' => ∃ u vals, e = .returned u ∧ w'.ownsRow w.heap.size 23 1 u (waysR r v).length vals ∧ WL w' w.heap.size vals (waysR r v) ∧ Below w.heap.size w w' := by
  subst hl
  go_enter Tryd.func15, Tryd.ntmps15
  go_wp2
  go_loopw [5, 6, 7, 8, 9] (fun u i _ _ _ wr => ∃ (d : Nat) (vals : List Value), 1 ≤ d ∧ d ≤ r.length + 1 ∧ i = .int .i64 (d : Int) ∧ wr.ownsRow w.heap.size 23 1 u (wD r v d).length vals ∧ WL wr w.heap.size vals (wD r v d) ∧ Below w.heap.size w wr) (fun _ i _ _ _ _ => r.length + 1 - (intOf i).toNat)
  case atStart => exact ⟨1, [], by omega, by omega, rfl, World.ownsRow_nil _ _ _ _, WL.nil _ _, Below.refl _ _⟩
  case round =>
    obtain ⟨d, vals, hd1, hd, rfl, ho, hw, hb⟩ := hrel
    by_cases hlt : d ≤ r.length
    · have h1 : (d : Int) ≤ (r.length : Int) := by omega
      have bl := wD_len r v (D := d) hm (by omega)
      have AL := Lib.hid (addD_len r v (wD r v d) d)
      have S0 := Lib.hid (wD_next r v hd1)
      go_wp2
      go_loopw [5, 7, 8, 9] (fun u i _ _ wr => ∃ (k : Nat) (vals : List Value), k ≤ r.length ∧ i = .int .i64 (k : Int) ∧ wr.ownsRow w.heap.size 23 1 u (addD r v (wD r v d) d k).length vals ∧ WL wr w.heap.size vals (addD r v (wD r v d) d k) ∧ Below w.heap.size w wr) (fun _ i _ _ _ => r.length - (intOf i).toNat)
      case atStart => exact ⟨0, vals, by omega, rfl, ho, hw, hb⟩
      case round =>
        clear ho hw hb
        obtain ⟨k, vals, hk, rfl, ho, hw, hb⟩ := hrel
        by_cases hlk : k < r.length
        · have ak := AL.out k
          have SM := Lib.hid (fun i (_ : i < (addD r v (wD r v d) d k).length) => addD_small r v k i hd1 hm hk)
          have AS := Lib.hid (addD_succ r v (wD r v d) d k)
          have hki : (k : Int) < (r.length : Int) := by omega
          have ln := wayR_len r v k
          generalize addD r v (wD r v d) d k = W at *
          go_wp2_with fail
          refine (wayR_any A r.length c r v rfl hm k hlk wr (hx.below hb)).mono ?_
          rintro e w1 ⟨z, rfl, oz, hb1⟩
          replace oz := own_base oz hb.size
          replace ho := own_below ho hb1
          replace hw := hw.below hb1
          replace hb := bthen hb hb1
          obtain ⟨uA, uc, rfl, _, _⟩ := own_rd ho
          obtain ⟨zA, zc, rfl, _, _⟩ := own_rd oz
          clear hb1
          have NO := Lib.hid (fun h => AS.out.trans (addW_no (r := r) (v := v) (d := d) (i := k) (ws := W) h))
          have YES := Lib.hid (fun h1 h2 h3 => AS.out.trans (addW_yes (r := r) (v := v) (d := d) (i := k) (ws := W) h1 h2 h3))
          have PN := Lib.hid (placeI_neg W (wayR r v k).1)
          by_cases c1 : (wayR r v k).2 = true
          · rw [c1]
            by_cases c2 : (wayR r v k).1.length = d
            · have YE := Lib.hid (YES.out c1 c2)
              have rz := own_rdA oz
              have C2 := Lib.hid c2
              clear YES c1
              have ru := own_rdA ho
              generalize (wayR r v k).1 = L at *
              subst c2
              have d2 : ((L.length : Int) == (L.length : Int)) = true := by simp
              go_wp2_with fail
              refine (place_any uA zA W.length uc L.length zc w.heap.size vals W L w1 rfl (by omega) ru hw SM.out rfl rz).mono ?_
              rintro e w2 ⟨rfl, hb2⟩
              replace ho := own_below ho hb2
              replace oz := own_below oz hb2
              replace hw := hw.below hb2
              replace hb := bthen hb hb2
              clear hb2 ru rz d2
              by_cases c3 : placeI W L < 0
              · have H0 := Lib.hid (YE.out (PN.out.1 c3))
                have d3 : decide (placeI W L < 0) = true := decide_eq_true c3
                clear c3
                generalize placeI W L = Pl at *
                go_wp2_with (at_builtin; refine app (w0 := w) w.heap.size rfl _ _ 48 23 (.slice none 0 0) 1 24 rfl Tryd.underlying48 info23 rfl (by decide) (by decide) (.slice uA W.length uc) W.length vals #[.slice zA L.length zc] rfl rfl rfl (by simp [Value.oneCell']) ho hb hb.size (by omega) ?_; intro g cap w4 ow hb4 hg4 _)
                go_roundw
                case rel =>
                  refine ⟨k + 1, vals ++ [.slice zA L.length zc], by omega, by go_num, ?_, ?_, hb4⟩
                  · rw [H0.out, List.length_append]
                    exact ow
                  · rw [H0.out]
                    exact (hw.grown ho (by decide) hg4).snoc (oz.kept hg4 (own_type_ne oz ho (by decide)))
                case measure => simp [intOf]; omega
              · have H0 := Lib.hid (NO.out (fun h => c3 (PN.out.2 h.2.2)))
                have d3 : decide (placeI W L < 0) = false := decide_eq_false c3
                clear c3
                generalize placeI W L = Pl at *
                go_wp2
                go_roundw
                case rel => exact ⟨k + 1, vals, by omega, by go_num, by rw [H0.out]; exact ho, by rw [H0.out]; exact hw, hb⟩
                case measure => simp [intOf]; omega
            · have H0 := Lib.hid (NO.out (fun h => c2 h.2.1))
              have d2 : (((wayR r v k).1.length : Int) == (d : Int)) = false := by simp; omega
              clear c2 c1
              generalize (wayR r v k).1.length = M at *
              go_wp2
              go_roundw
              case rel => exact ⟨k + 1, vals, by omega, by go_num, by rw [H0.out]; exact ho, by rw [H0.out]; exact hw, hb⟩
              case measure => simp [intOf]; omega
          · have H0 := Lib.hid (NO.out (fun h => c1 h.1))
            rw [Bool.not_eq_true] at c1
            rw [c1]
            clear c1
            go_wp2
            go_roundw
            case rel => exact ⟨k + 1, vals, by omega, by go_num, by rw [H0.out]; exact ho, by rw [H0.out]; exact hw, hb⟩
            case measure => simp [intOf]; omega
        · obtain rfl : k = r.length := by omega
          rw [S0.out] at ho hw
          go_wp2
          go_roundw
          case rel => exact ⟨d + 1, vals, by omega, by omega, by go_num, ho, hw, hb⟩
          case measure => simp [intOf]; omega
    · obtain rfl : d = r.length + 1 := by omega
      have h1 : decide (((r.length + 1 : Nat) : Int) ≤ (r.length : Int)) = false := decide_eq_false (by omega)
      go_wp2
      go_returns
      exact ⟨_, vals, rfl, ho, hw, hb⟩
end Go.Proofs.YtlcgkdhcdldlfaaDoor
