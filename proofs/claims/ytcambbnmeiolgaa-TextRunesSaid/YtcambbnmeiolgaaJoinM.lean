import Derived.Test.YtcambbnmeiolgaaPlain
import Derived.Test.YtcambbnmeiolgaaDecodesW
import Derived.Test.YtcambbnmeiolgaaAllsW
import Derived.Maps.OwnIn
/- Joining, and what Encode answers. -/
namespace Go.Proofs.Ytcambbnmeiolgaa

/-- does the pair stand at that place? -/
def atP (l : List Int) (p : Int × Int) (i : Nat) : Bool := decide (l[i]? = some p.1 ∧ l[i + 1]? = some p.2)
def stands (l : List Int) (p : Int × Int) : Bool := (List.range l.length).any (atP l p)
theorem stands_iff (l : List Int) (p : Int × Int) : stands l p = true ↔ ∃ i, i + 1 < l.length ∧ atP l p i = true := by
  simp only [stands, List.any_eq_true, List.mem_range]
  constructor
  · rintro ⟨i, hi, h⟩
    refine ⟨i, ?_, h⟩
    simp only [atP, decide_eq_true_eq] at h
    exact (List.getElem?_eq_some_iff.1 h.2).1
  · rintro ⟨i, hi, h⟩
    exact ⟨i, by omega, h⟩
/-- the pair becomes a token wherever it stands, from the left -/
def joined (p : Int × Int) (t : Int) : List Int → List Int
  | [] => []
  | [x] => [x]
  | x :: y :: r => if x = p.1 ∧ y = p.2 then t :: joined p t r else x :: joined p t (y :: r)
theorem joined_len (p : Int × Int) (t : Int) : ∀ (n : Nat) (l : List Int), l.length ≤ n → (joined p t l).length ≤ l.length := by
  intro n
  induction n with
  | zero => intro l hl; match l, hl with | [], _ => simp [joined]
  | succ n ih =>
    intro l hl
    match l, hl with
    | [], _ => simp [joined]
    | [x], _ => simp [joined]
    | x :: y :: r, hl =>
      unfold joined
      split
      · have := ih r (by simp at hl; omega)
        simp; omega
      · have := ih (y :: r) (by simpa using hl)
        simp at *; omega
theorem joined_lt (p : Int × Int) (t : Int) : ∀ (n : Nat) (l : List Int), l.length ≤ n → stands l p = true → (joined p t l).length < l.length := by
  intro n
  induction n with
  | zero => intro l hl h; match l, hl with | [], _ => simp [stands] at h
  | succ n ih =>
    intro l hl h
    obtain ⟨i, hi, ha⟩ := (stands_iff l p).1 h
    match l, hl, hi, ha with
    | [], _, hi, _ => simp at hi
    | [x], _, hi, _ => simp at hi
    | x :: y :: r, hl, hi, ha =>
      unfold joined
      split
      · have := joined_len p t n r (by simp at hl; omega)
        simp; omega
      · rename_i hne
        cases i with
        | zero =>
          simp [atP] at ha
          exact absurd ha hne
        | succ i =>
          have := ih (y :: r) (by simpa using hl) ((stands_iff _ _).2 ⟨i, by simpa using hi, by simpa [atP] using ha⟩)
          simp at *; omega
theorem joined_at {p : Int × Int} {t : Int} {l : List Int} {i : Nat} (h : atP l p i = true) : joined p t (l.drop i) = t :: joined p t (l.drop (i + 2)) := by
  simp only [atP, decide_eq_true_eq] at h
  obtain ⟨h1, e1⟩ := List.getElem?_eq_some_iff.1 h.1
  obtain ⟨h2, e2⟩ := List.getElem?_eq_some_iff.1 h.2
  rw [drop_cons l i h1, drop_cons l (i + 1) h2, e1, e2, joined, if_pos ⟨rfl, rfl⟩]
theorem joined_not {p : Int × Int} {t : Int} {l : List Int} {i : Nat} (hi : i < l.length) (h : atP l p i = false) : joined p t (l.drop i) = l[i] :: joined p t (l.drop (i + 1)) := by
  simp only [atP, decide_eq_false_iff_not] at h
  rw [drop_cons l i hi]
  rcases Nat.lt_or_ge (i + 1) l.length with h2 | h2
  · rw [drop_cons l (i + 1) h2, joined, if_neg]
    rintro ⟨a, b⟩
    exact h ⟨by rw [List.getElem?_eq_getElem hi, a], by rw [List.getElem?_eq_getElem h2, b]⟩
  · rw [List.drop_of_length_le h2]
    rfl
/-- the first pair that stands somewhere is joined, again and again -/
def joinAll (n : Nat) (ps : List (Int × Int)) (l : List Int) : List Int :=
  if h : ps.findIdx (stands l) < ps.length then joinAll n ps (joined (ps[ps.findIdx (stands l)]'h) (1 + n + ps.findIdx (stands l) : Nat) l) else l
termination_by l.length
decreasing_by exact joined_lt _ _ _ l (Nat.le_refl _) (List.findIdx_getElem (w := h))
theorem joinAll_none {n : Nat} {ps : List (Int × Int)} {l : List Int} (h : ¬ ps.findIdx (stands l) < ps.length) : joinAll n ps l = l := by
  rw [joinAll, dif_neg h]
theorem joinAll_step {n : Nat} {ps : List (Int × Int)} {l : List Int} {j : Nat} (hj : ps.findIdx (stands l) = j) (h : j < ps.length) : joinAll n ps l = joinAll n ps (joined ps[j] (1 + n + j : Nat) l) := by
  subst hj
  conv => lhs; rw [joinAll, dif_pos h]
theorem joinAll_len (n : Nat) (ps : List (Int × Int)) : ∀ (k : Nat) (l : List Int), l.length ≤ k → (joinAll n ps l).length ≤ l.length := by
  intro k
  induction k with
  | zero => intro l hl; rw [joinAll]; split
            · rename_i h
              have := joined_lt (ps[ps.findIdx (stands l)]'h) (1 + n + ps.findIdx (stands l) : Nat) _ l (Nat.le_refl _) (List.findIdx_getElem (w := h))
              omega
            · omega
  | succ k ih =>
    intro l hl
    rw [joinAll]
    split
    · rename_i h
      have h1 := joined_lt (ps[ps.findIdx (stands l)]'h) (1 + n + ps.findIdx (stands l) : Nat) _ l (Nat.le_refl _) (List.findIdx_getElem (w := h))
      have h2 := ih _ (show (joined (ps[ps.findIdx (stands l)]'h) (1 + n + ps.findIdx (stands l) : Nat) l).length ≤ k by omega)
      omega
    · omega
/-- the token of a byte; 0: none -/
def baseT (bs : List Int) (b : Int) : Int := if b ∈ bs then (bs.idxOf b : Int) + 1 else 0
def errE (bs : List Int) (ps : List (Int × Int)) (x : List Int) : Int := match vocF bs ps with | none => 50 | some _ => if x.all (fun b => decide (b ∈ bs)) then 0 else 51
def encL (bs : List Int) (ps : List (Int × Int)) (x : List Int) : List Int := match vocF bs ps with | none => [] | some _ => if x.all (fun b => decide (b ∈ bs)) then joinAll bs.length ps (x.map (baseT bs)) else []
end Go.Proofs.Ytcambbnmeiolgaa
namespace Go.Proofs.Ytcambbnmeiolgaa
open Go.RowKit

theorem atP_of {l : List Int} {p : Int × Int} {i : Nat} (h1 : i < l.length) (h2 : i + 1 < l.length) : atP l p i = decide (l[i] = p.1 ∧ l[i + 1] = p.2) := by
  simp [atP, List.getElem?_eq_getElem h1, List.getElem?_eq_getElem h2]
end Go.Proofs.Ytcambbnmeiolgaa
namespace Go.Proofs.Ytcambbnmeiolgaa
open Go.RowKit

theorem Blk.drewN {w : World} {b n : Nat} {cs : Array Value} {t : TypeId} (h : Blk w b cs t) : Blk (w.drewN n) b cs t := h
theorem idxOf_at {bs : List Int} {b : Int} {k : Nat} (hk : k < bs.length) (h : bs[k] = b) (hno : b ∉ bs.take k) : bs.idxOf b = k := by
  unfold List.idxOf
  rw [List.findIdx_eq hk]
  refine ⟨by simp [h], fun j hj => ?_⟩
  simp only [beq_eq_false_iff_ne]
  rintro rfl
  exact hno (List.mem_take_iff_getElem.2 ⟨j, by omega, rfl⟩)
end Go.Proofs.Ytcambbnmeiolgaa
namespace Go.Proofs.Ytcambbnmeiolgaa
open Go.RowKit

/-- a slice's length -/
def lenV : Value → Nat | .slice _ n _ => n | _ => 0
theorem findIdx_at {ps : List (Int × Int)} {f : Int × Int → Bool} {k : Nat} (hk : k < ps.length) (h : f ps[k] = true) (hno : ∀ j, j < k → ∀ p, ps[j]? = some p → f p = false) : ps.findIdx f = k := by
  rw [List.findIdx_eq hk]
  exact ⟨h, fun j hj => hno j hj _ (List.getElem?_eq_getElem (by omega))⟩
theorem findIdx_no {ps : List (Int × Int)} {f : Int × Int → Bool} (hno : ∀ j, j < ps.length → ∀ p, ps[j]? = some p → f p = false) : ¬ ps.findIdx f < ps.length := by
  intro h
  have h1 := List.findIdx_getElem (w := h)
  rw [hno _ h _ (List.getElem?_eq_getElem h)] at h1
  cases h1
end Go.Proofs.Ytcambbnmeiolgaa
namespace Go.Proofs.Ytcambbnmeiolgaa
open Go.RowKit

end Go.Proofs.Ytcambbnmeiolgaa
namespace Go.Proofs.Ytcambbnmeiolgaa
open Go.RowKit

theorem set_grown (W : World) (g i : Nat) (u : Value) : W.grownBy (W.setCell ⟨g, i, none⟩ u) (some g) :=
  ⟨rfl, rfl, rfl, by simp, fun k _ hk => Below.heap_setCell _ _ _ k (fun e => hk (by rw [e]))⟩
theorem drewN_grown (W : World) (n : Nat) (row : Option Nat) : W.grownBy (W.drewN n) row := ⟨rfl, rfl, rfl, Nat.le_refl _, fun _ _ _ => rfl⟩
/-- the cells of a list that is joined in place: what is made ahead, what is to come behind -/
structure Mid (w : World) (g cap : Nat) (l out : List Int) (k : Nat) (cur : Array Value) : Prop where
  blk : Blk w g cur 3
  size : cur.size = cap
  pre : ∀ (j : Nat) (h : j < out.length), cur[j]? = some (.int .i64 out[j])
  post : ∀ (j : Nat) (h : j < l.length), k ≤ j → cur[j]? = some (.int .i64 l[j])
theorem Mid.set {w : World} {g cap k : Nat} {l out : List Int} {cur : Array Value} (h : Mid w g cap l out k cur) (hlt : out.length ≤ k) (hk : k < cap) (x : Int) (k' : Nat) (hk' : k < k') :
    Mid (w.setCell ⟨g, out.length, none⟩ (.int .i64 x)) g cap l (out ++ [x]) k' (cur.setIfInBounds out.length (.int .i64 x)) := by
  have hs := h.size
  refine ⟨h.blk.set _ _, by simp [h.size], fun j hj => ?_, fun j hj hkj => ?_⟩
  · rw [Array.getElem?_setIfInBounds]
    split
    · rename_i e
      subst e
      rw [if_pos (by omega)]
      simp
    · rename_i e
      have hlt' : j < out.length := by simp at hj; omega
      rw [h.pre j hlt', List.getElem_append_left hlt']
  · rw [Array.getElem?_setIfInBounds_ne (by omega)]
    exact h.post j hj (by omega)

theorem Mid.weak {w : World} {g cap k : Nat} {l out : List Int} {x : Int} {cur : Array Value} (h : Mid w g cap l (out ++ [x]) k cur) : Mid w g cap l out k cur :=
  ⟨h.blk, h.size, fun j hj => by rw [h.pre j (by simp; omega), List.getElem_append_left hj], h.post⟩
theorem Mid.drewN {w : World} {g cap k n : Nat} {l out : List Int} {cur : Array Value} (h : Mid w g cap l out k cur) : Mid (w.drewN n) g cap l out k cur := ⟨h.blk, h.size, h.pre, h.post⟩

set_option maxRecDepth 100000 in
set_option maxHeartbeats 4000000 in
/-- bpe.join, in place -/
theorem bjoin_any (base g n cap : Nat) (l : List Int) (pa pb t : Int) (w : World) (hl : l.length = n) (hb0 : n ≤ 8589934600) (ho : w.ownsRow base 3 1 (.slice (some ⟨g, 0, none⟩) n cap) n (I64 l)) :
    Calls Try.prog 50 #[.slice (some ⟨g, 0, none⟩) n cap, .agg #[.int .i64 pa, .int .i64 pb], .int .i64 t] w fun e w' => e = .returned (.slice (some ⟨g, 0, none⟩) (joined (pa, pb) t l).length cap) ∧ w'.ownsRow base 3 1 (.slice (some ⟨g, 0, none⟩) (joined (pa, pb) t l).length cap) (joined (pa, pb) t l).length (I64 (joined (pa, pb) t l)) ∧ w.grownBy w' (some g) := by
  have q0 := Blk.new w #[.int .i64 pa, .int .i64 pb] 95
  have h0 : w.grownBy (w.alloc (.cells #[.int .i64 pa, .int .i64 pb] 95)) (some g) := World.grownBy_alloc w _ _
  have hjl := joined_len (pa, pb) t _ l (Nat.le_refl _)
  obtain ⟨g', cap', cur, he, hbg, hg, hnc, hcm, hcs, htk⟩ : ∃ g' cap' cur, Value.slice (some ⟨g, 0, none⟩) n cap = .slice (some ⟨g', 0, none⟩) n cap' ∧ base ≤ g' ∧ w.heap[g']? = some (.cells cur 3 (0, 0)) ∧ n ≤ cap' ∧ cap' ≤ maxLen ∧ cur.size = cap' * 1 ∧ cur.toList.take (n * 1) = I64 l := by
    rcases ho.2 with ⟨h, _⟩ | h
    · cases h
    · exact h
  cases he
  rw [Nat.mul_one] at hcs htk
  have m0 : Mid (w.alloc (.cells #[.int .i64 pa, .int .i64 pb] 95)) g cap l [] 0 cur := by
    refine ⟨Blk.alloc hg _, hcs, by intro j h; simp at h, fun j hj _ => ?_⟩
    have h1 : (cur.toList.take n)[j]? = some (.int .i64 l[j]) := by rw [htk]; simp [I64, hj]
    rw [List.getElem?_take_of_lt (by omega)] at h1
    simpa using h1
  have hgw : g < w.heap.size := (Array.getElem?_eq_some_iff.1 hg).1
  go_enter Try.func50, Try.ntmps50
  go_wp2
  generalize w.alloc (.cells #[.int .i64 pa, .int .i64 pb] 95) = w1 at *
  go_loopw [7, 8] (fun nv i wr => ∃ (k : Nat) (out : List Int) (cur : Array Value), k ≤ n ∧ nv = .int .i64 (out.length : Int) ∧ i = .int .i64 (k : Int) ∧ out ++ joined (pa, pb) t (l.drop k) = joined (pa, pb) t l ∧ out.length ≤ k ∧ Mid wr g cap l out k cur ∧ Blk wr w.heap.size #[.int .i64 pa, .int .i64 pb] 95 ∧ w.grownBy wr (some g)) (fun _ i _ => n - (intOf i).toNat)
  case atStart => exact ⟨0, [], cur, by omega, rfl, rfl, by simp, by simp, m0, q0, h0⟩
  case round =>
    clear m0 q0 h0
    obtain ⟨k, out, cur, hk, rfl, rfl, hj, hol, mm, q0, hb⟩ := hrel
    have HJ := Lib.hid hj
    clear hj
    by_cases hlt : k < n
    · have y1 : wr.cell? ⟨g, k, none⟩ = some (.int .i64 (l[k]'(by omega))) := by rw [mm.blk.cell, mm.post k (by omega) (Nat.le_refl _)]
      have hsz := mm.size
      obtain ⟨old, y0⟩ : ∃ old, wr.cell? ⟨g, out.length, none⟩ = some old := by rw [mm.blk.cell]; exact ⟨_, Array.getElem?_eq_getElem (by omega)⟩
      have yf := mm.blk.frozen out.length
      have ea : (⟨g, 0, none⟩ : Addr).add k = ⟨g, k, none⟩ := by simpa using addr_add g 0 k
      have ea1 : (⟨g, 0, none⟩ : Addr).add out.length = ⟨g, out.length, none⟩ := by simpa using addr_add g 0 out.length
      have hkn : (k : Int) < (n : Int) := by omega
      have hon : (out.length : Int) < (n : Int) := by omega
      have hon2 : out.length < n := by omega
      have hjn := fun h => joined_not (p := (pa, pb)) (t := t) (show k < l.length by omega) h
      have hja := fun h => joined_at (p := (pa, pb)) (t := t) (l := l) (i := k) h
      have hp2 := fun (h : k + 1 < l.length) => atP_of (p := (pa, pb)) (show k < l.length by omega) h
      have hpk := mm.post k (by omega) (Nat.le_refl _)
      generalize hX : l[k]'(by omega) = x at *
      have m2 := mm.set hol (by omega) x (k + 1) (by omega)
      have q2 := q0.other ⟨g, out.length, none⟩ (.int .i64 x) (by simp; omega)
      have hb2 := World.grownBy.trans hb (set_grown wr g out.length (.int .i64 x))
      have z1 : (wr.setCell ⟨g, out.length, none⟩ (.int .i64 x)).cell? ⟨g, k, none⟩ = some (.int .i64 x) := by
        rw [m2.blk.cell, Array.getElem?_setIfInBounds]
        split
        · rename_i e
          rw [if_pos (by omega)]
        · exact hpk
      go_wp2
      clear y1 y0 yf mm q0 hb
      generalize wr.setCell ⟨g, out.length, none⟩ (.int .i64 x) = W2 at *
      generalize cur.setIfInBounds out.length (.int .i64 x) = cur2 at *
      have x0 : W2.cell? ⟨w.heap.size, 0, none⟩ = some (.int .i64 pa) := q2.cell _
      have x1 : W2.cell? ⟨w.heap.size, 1, none⟩ = some (.int .i64 pb) := q2.cell _
      have f0 : W2.cell? ⟨g, out.length, none⟩ = some (.int .i64 x) := by rw [m2.blk.cell, m2.pre out.length (by simp)]; simp
      have f1 := m2.blk.frozen out.length
      have hb2' : 0 ≤ (k : Int) + 1 := by omega
      have hwk : IntKind.i64.wrap ((k : Int) + 1) = (k : Int) + 1 := IntWalk.i64_in _ (by omega)
      by_cases h2 : k + 1 < n
      · have z2 : W2.cell? ⟨g, k + 1, none⟩ = some (.int .i64 (l[k + 1]'(by omega))) := by rw [m2.blk.cell, m2.post (k + 1) (by omega) (Nat.le_refl _)]
        have ea2 : (⟨g, 0, none⟩ : Addr).add (k + 1) = ⟨g, k + 1, none⟩ := by simpa using addr_add g 0 (k + 1)
        have hb1 : (k : Int) + 1 < (n : Int) := by omega
        have hi1 : ((k : Int) + 1).toNat = k + 1 := by omega
        have hat := hp2 (by omega)
        generalize l[k + 1]'(by omega) = y at *
        clear hp2
        by_cases e1 : x = pa
        · by_cases e2 : y = pb
          · have hs := hja (by rw [hat]; simp [hX, e1, e2])
            have HS := Lib.hid hs
            clear hs hja hjn hat hX
            subst e1 e2
            go_wp2
            go_quiet (fail)
            all_goals go_wp2
            go_roundw
            case rel =>
              exact ⟨k + 2, out ++ [t], _, by omega, by simp, by go_num, by rw [← HJ.out, HS.out, List.append_assoc]; rfl, by simp; omega, m2.weak.drewN.set (by omega) (by omega) t (k + 2) (by omega), (Blk.drewN q2).other _ _ (by simp; omega), World.grownBy.trans (World.grownBy.trans hb2 (drewN_grown _ _ _)) (set_grown _ g out.length (.int .i64 t))⟩
            case measure => simp [intOf]; omega
          · have hs := hjn (by rw [hat]; simp [e2])
            have HS := Lib.hid hs
            have e2' : (y == pb) = false := by simpa using e2
            clear hs hja hjn hat hX
            subst e1
            go_wp2
            go_quiet (fail)
            all_goals go_wp2
            go_roundw
            case rel =>
              exact ⟨k + 1, out ++ [x], cur2, by omega, by simp, by go_num, by rw [← HJ.out, HS.out, List.append_assoc]; rfl, by simp; omega, m2.drewN, Blk.drewN q2, World.grownBy.trans hb2 (drewN_grown _ _ _)⟩
            case measure => simp [intOf]; omega
        · have hs := hjn (by rw [hat, hX]; simp [e1])
          have HS := Lib.hid hs
          have e1' : (x == pa) = false := by simpa using e1
          clear hs hja hjn hat hX
          go_wp2
          go_quiet (fail)
          all_goals go_wp2
          go_roundw
          case rel =>
            exact ⟨k + 1, out ++ [x], cur2, by omega, by simp, by go_num, by rw [← HJ.out, HS.out, List.append_assoc]; rfl, by simp; omega, m2.drewN, Blk.drewN q2, World.grownBy.trans hb2 (drewN_grown _ _ _)⟩
          case measure => simp [intOf]; omega
      · have hs := hjn (by unfold atP; rw [decide_eq_false_iff_not]; rintro ⟨_, h⟩; have := (List.getElem?_eq_some_iff.1 h).1; omega)
        have hb1 : decide ((k : Int) + 1 < (n : Int)) = false := by rw [decide_eq_false_iff_not]; omega
        have HS := Lib.hid hs
        clear hs hja hjn hX hp2
        go_wp2
        go_quiet (fail)
        all_goals go_wp2
        go_roundw
        case rel =>
          exact ⟨k + 1, out ++ [x], cur2, by omega, by simp, by go_num, by rw [← HJ.out, HS.out, List.append_assoc]; rfl, by simp; omega, m2.drewN, Blk.drewN q2, World.grownBy.trans hb2 (drewN_grown _ _ _)⟩
        case measure => simp [intOf]; omega
    · obtain rfl : n = k := by omega
      have hr : out = joined (pa, pb) t l := by
        have := HJ.out
        rw [List.drop_of_length_le (by omega)] at this
        simpa [joined] using this
      have HR := Lib.hid hr
      clear hr
      have hoc : (out.length : Int) ≤ (cap : Int) := by omega
      have hoc2 : out.length ≤ cap := by omega
      go_wp2
      go_returns
      refine ⟨by rw [← HR.out]; rfl, ?_, hb⟩
      rw [← HR.out]
      refine ⟨by simp [I64], .inr ⟨g, cap, cur, rfl, hbg, mm.blk, hoc2, hcm, by rw [mm.size, Nat.mul_one], ?_⟩⟩
      have hsz := mm.size
      apply List.ext_getElem
      · simp [I64]; omega
      · intro i h1 h2
        have h3 : i < out.length := by simpa [I64] using h2
        have := mm.pre i h3
        rw [Array.getElem?_eq_getElem (by omega)] at this
        simp [I64]
        exact Option.some.inj this
end Go.Proofs.Ytcambbnmeiolgaa
namespace Go.Proofs.Ytcambbnmeiolgaa
open Go.RowKit

section
variable {F : Fence} {nF : Nat} {P : Program} {ops : Array Oper} {rest : List Oper} {o : Oper} {a : Act} {Q : Exit → Act → World → Prop}
/-- 'app' inside a fence -/
theorem appIn {w0 W : World} (base : Nat) (hgd : o.guard = none) (s x : Operand) (t e : TypeId) (z : Value) (size bytes : Nat)
    (ho : o.op = .call { callee := .builtin .append, args := #[s, x], argTypes := #[t, t] })
    (ht : P.underlying t = some (.slice e)) (hinfo : (P.info? e).map (fun i => (i.zero, i.size, i.bytes)) = some (some z, size, bytes)) (hzs : z.cells.size = size) (hsz : 0 < size) (hb0 : 0 < bytes)
    (v : Value) (n : Nat) (xs : List Value) (cs : Array Value) (hs : a.eval s = v) (hx : a.eval x = .slice (some ⟨W.heap.size, 0, none⟩) 1 1) (hl : cs.size = size) (h1 : ∀ u ∈ cs.toList, u.oneCell' = true)
    (HO : W.ownsRow base e size v n xs) (HB : Below base w0 W) (hbase : base ≤ W.heap.size) (hle : (n + 1) * bytes ≤ 140737488355328)
    (h : ∀ g cap w1, w1.ownsRow base e size (.slice (some ⟨g, 0, none⟩) (n + 1) cap) (n + 1) (xs ++ cs.toList) → Below base w0 w1 → W.grownBy w1 v.ownBlock → (some g = v.ownBlock ∨ g = W.heap.size + 1) → wpListIn F nF P ops Q rest (a.put o.dst (.slice (some ⟨g, 0, none⟩) (n + 1) cap)) w1) :
    wpListIn F nF P ops Q (o :: rest) a (W.alloc (.cells cs e)) := by
  obtain ⟨i0, hi, hzz⟩ := Option.map_eq_some_iff.1 hinfo
  simp only [Prod.mk.injEq] at hzz
  obtain ⟨hz0, hz1, hz2⟩ := hzz
  have hlen : n + 1 ≤ 140737488355328 := Nat.le_trans (Nat.le_mul_of_pos_right _ hb0) hle
  refine wpListIn_append_own_at (W.alloc (.cells cs e)) hgd s x t ho base e i0 z size bytes ht hi hz0 hz1 hz2 hzs hsz v n xs hs (HO.alloc _) ⟨W.heap.size, 0, none⟩ 1 1 cs.toList hx (by simpa using hl)
    (World.news_of_block (cs := cs) (t := e) (fr := (0, 0)) (MapKept.heap_alloc W _).1) h1 (by simp only [maxLen]; omega) hle (by simp; omega) ?_
  intro v1 w1 hown hg _ hat
  rcases hown.2 with ⟨_, h0⟩ | ⟨g, cap, cur, rfl, _⟩
  · omega
  · refine h g cap w1 hown ((HB.alloc hbase _).grown hg (by simp; omega) (fun k hk => ?_)) (World.grownBy.trans (World.grownBy_alloc W _ _) hg) ?_
    · exact (own_lt HO k hk).1
    · rcases hat with hat | hat
      · exact .inl hat
      · right
        simpa [Value.ownBlock] using hat
end
theorem own_made3 (W : World) (base cap : Nat) (hb : base ≤ W.heap.size) (hm : cap ≤ maxLen) :
    (W.alloc (.cells (madeCells #[.int .i64 0] cap) 3)).ownsRow base 3 1 (.slice (some ⟨W.heap.size, 0, none⟩) 0 cap) 0 [] :=
  ⟨rfl, .inr ⟨W.heap.size, cap, _, rfl, hb, (MapKept.heap_alloc W _).1, Nat.zero_le _, hm, by simp [size_madeCells], by simp⟩⟩
end Go.Proofs.Ytcambbnmeiolgaa
