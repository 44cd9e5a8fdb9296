import Derived.Test.YtcambbnmeiolgaaEnc
import Derived.Test.YtcambbnmeiolgaaCutP
import Derived.Test.YtcambbnmeiolgaaDec
namespace Go.Proofs.Ytcambbnmeiolgaa
open Go.RowKit

theorem joined_mem {P : Int → Prop} (p : Int × Int) {t : Int} (h : P t) : ∀ (n : Nat) (l : List Int), l.length ≤ n → (∀ y ∈ l, P y) → ∀ y ∈ joined p t l, P y := by
  intro n
  induction n with
  | zero => intro l hl _; match l, hl with | [], _ => intro y hy; simp [joined] at hy
  | succ n ih =>
    intro l hl hP
    match l, hl, hP with
    | [], _, _ => intro y hy; simp [joined] at hy
    | [x], _, hP => intro y hy; exact hP y (by simpa [joined] using hy)
    | x :: z :: r, hl, hP =>
      intro y hy
      unfold joined at hy
      split at hy
      · rcases List.mem_cons.1 hy with rfl | hy
        · exact h
        · exact ih r (by simp at hl; omega) (fun q hq => hP q (by simp [hq])) y hy
      · rcases List.mem_cons.1 hy with rfl | hy
        · exact hP _ (by simp)
        · exact ih (z :: r) (by simpa using hl) (fun q hq => hP q (List.mem_cons_of_mem _ hq)) y hy
/-- what holds of each step of joining holds of its end -/
theorem joinAll_ind {n : Nat} {ps : List (Int × Int)} {Q : List Int → Prop} (step : ∀ l, Q l → ∀ (j : Nat) (h : j < ps.length), Q (joined ps[j] (1 + n + j : Nat) l)) : ∀ (k : Nat) (l : List Int), l.length ≤ k → Q l → Q (joinAll n ps l) := by
  intro k
  induction k with
  | zero =>
    intro l hl hQ
    rw [joinAll_none]
    · exact hQ
    · intro h
      have hs : stands l ps[ps.findIdx (stands l)] = true := List.findIdx_getElem
      obtain ⟨i, hi, _⟩ := (stands_iff _ _).1 hs
      omega
  | succ k ih =>
    intro l hl hQ
    by_cases h : ps.findIdx (stands l) < ps.length
    · have hs : stands l ps[ps.findIdx (stands l)] = true := List.findIdx_getElem
      rw [joinAll_step rfl h]
      have := joined_lt ps[ps.findIdx (stands l)] ((1 + n + ps.findIdx (stands l) : Nat) : Int) _ l (Nat.le_refl _) hs
      exact ih _ (by omega) (step l hQ _ h)
    · rw [joinAll_none h]
      exact hQ
theorem flat_cons (ls : List (List Int)) (x : Int) (l : List Int) : flat ls (x :: l) = tok ls x.toNat ++ flat ls l := by simp [flat]
theorem joined_flat {ls : List (List Int)} {p : Int × Int} {t : Nat} (h : tok ls t = tok ls p.1.toNat ++ tok ls p.2.toNat) : ∀ (n : Nat) (l : List Int), l.length ≤ n → flat ls (joined p t l) = flat ls l := by
  intro n
  induction n with
  | zero => intro l hl; match l, hl with | [], _ => simp [joined]
  | succ n ih =>
    intro l hl
    match l, hl with
    | [], _ => simp [joined]
    | [x], _ => simp [joined]
    | x :: y :: r, hl =>
      unfold joined
      split
      · rename_i he
        rw [flat_cons, flat_cons, flat_cons, ih r (by simp at hl; omega), Int.toNat_natCast, h, he.1, he.2, List.append_assoc]
      · rw [flat_cons, flat_cons, ih (y :: r) (by simpa using hl)]
theorem base_flat {bs : List Int} {ps : List (Int × Int)} {ls : List (List Int)} (hT : Toks bs ps ls) : ∀ (x : List Int), (∀ z ∈ x, z ∈ bs) → flat ls (x.map (baseT bs)) = x := by
  intro x
  induction x with
  | nil => intro _; rfl
  | cons z r ih =>
    intro h
    rw [List.map_cons, flat_cons, ih (fun q hq => h q (List.mem_cons_of_mem _ hq))]
    have hz := h z (by simp)
    have hi : bs.idxOf z < bs.length := List.idxOf_lt_length_of_mem hz
    have hb := hT.base _ hi
    rw [List.getElem_idxOf] at hb
    have : tok ls (baseT bs z).toNat = [z] := by
      unfold baseT
      rw [if_pos hz]
      show ls.getD _ [] = _
      rw [← hb]
      congr 1
    rw [this]
    rfl
/-- what Encode answers, decoded, is the text -/
theorem round_ok {bs : List Int} {ps : List (Int × Int)} {ls : List (List Int)} (hq : vocF bs ps = some ls) {x : List Int} (hx : x.all (fun b => decide (b ∈ bs)) = true) : errD bs ps (encL bs ps x) = 0 ∧ bytD bs ps (encL bs ps x) = x := by
  have hT := toks_of hq
  have hxb : ∀ z ∈ x, z ∈ bs := fun z hz => of_decide_eq_true (List.all_eq_true.1 hx z hz)
  have he : encL bs ps x = joinAll bs.length ps (x.map (baseT bs)) := by unfold encL; rw [hq]; simp only; rw [if_pos hx]
  have hf : flat ls (joinAll bs.length ps (x.map (baseT bs))) = x := by
    refine joinAll_ind (Q := fun l => flat ls l = x) (fun l hl j hj => ?_) _ _ (Nat.le_refl _) (base_flat hT x hxb)
    rw [joined_flat (hT.pair j hj).2.2.2.2 _ l (Nat.le_refl _), hl]
  have hal : (joinAll bs.length ps (x.map (baseT bs))).all (okTok ls.length) = true := by
    rw [List.all_eq_true]
    refine joinAll_ind (Q := fun l => ∀ y ∈ l, okTok ls.length y = true) (fun l hl j hj => joined_mem _ ?_ _ l (Nat.le_refl _) hl) _ _ (Nat.le_refl _) ?_
    · have := hT.len
      simp only [okTok, decide_eq_true_eq]
      omega
    · intro y hy
      obtain ⟨z, hz, rfl⟩ := List.mem_map.1 hy
      have hi : bs.idxOf z < bs.length := List.idxOf_lt_length_of_mem (hxb z hz)
      have := hT.len
      unfold baseT
      rw [if_pos (hxb z hz)]
      simp only [okTok, decide_eq_true_eq]
      omega
  unfold errD bytD
  rw [he, hq]
  simp only
  rw [if_pos hal, if_pos hal]
  exact ⟨rfl, hf⟩
/-- no pair stands in what is joined to the end -/
theorem settled (n : Nat) (ps : List (Int × Int)) : ∀ (k : Nat) (l : List Int), l.length ≤ k → ∀ p ∈ ps, stands (joinAll n ps l) p = false := by
  intro k
  induction k with
  | zero =>
    intro l hl p _
    have : (joinAll n ps l).length ≤ l.length := joinAll_len n ps _ l (Nat.le_refl _)
    cases hs : stands (joinAll n ps l) p with
    | false => rfl
    | true =>
      obtain ⟨i, hi, _⟩ := (stands_iff _ _).1 hs
      omega
  | succ k ih =>
    intro l hl p hp
    by_cases h : ps.findIdx (stands l) < ps.length
    · have hs : stands l ps[ps.findIdx (stands l)] = true := List.findIdx_getElem
      rw [joinAll_step rfl h]
      have := joined_lt ps[ps.findIdx (stands l)] ((1 + n + ps.findIdx (stands l) : Nat) : Int) _ l (Nat.le_refl _) hs
      exact ih _ (by omega) p hp
    · rw [joinAll_none h]
      cases hs : stands l p with
      | false => rfl
      | true => exact absurd (List.findIdx_lt_length_of_exists ⟨p, hp, hs⟩) h
/-- fewer pairs first, the others later: the same -/
theorem joinAll_take (n : Nat) (ps : List (Int × Int)) (keep : Nat) : ∀ (k : Nat) (l : List Int), l.length ≤ k → joinAll n ps (joinAll n (ps.take keep) l) = joinAll n ps l := by
  intro k
  induction k with
  | zero =>
    intro l hl
    rw [joinAll_none (ps := ps.take keep)]
    intro h
    have hs : stands l (ps.take keep)[(ps.take keep).findIdx (stands l)] = true := List.findIdx_getElem
    obtain ⟨i, hi, _⟩ := (stands_iff _ _).1 hs
    omega
  | succ k ih =>
    intro l hl
    by_cases h : (ps.take keep).findIdx (stands l) < (ps.take keep).length
    · have hs : stands l (ps.take keep)[(ps.take keep).findIdx (stands l)] = true := List.findIdx_getElem
      have hj : ps.findIdx (stands l) = (ps.take keep).findIdx (stands l) := by
        have h1 : (ps.take keep).findIdx (stands l) < ps.length := by
          have : (ps.take keep).length ≤ ps.length := by rw [List.length_take]; omega
          omega
        refine findIdx_at h1 (by rw [List.getElem_take] at hs; exact hs) (fun j hj p hp => ?_)
        have h2 := List.not_of_lt_findIdx hj
        have h3 : (ps.take keep)[j]'(by omega) = p := by
          rw [List.getElem_take]
          obtain ⟨_, h4⟩ := List.getElem?_eq_some_iff.1 hp
          exact h4
        rw [h3] at h2
        simpa using h2
      have hlt : ps.findIdx (stands l) < ps.length := by
        have : (ps.take keep).length ≤ ps.length := by rw [List.length_take]; omega
        omega
      rw [joinAll_step (ps := ps.take keep) rfl h, joinAll_step (ps := ps) hj (by omega)]
      have he : (ps.take keep)[(ps.take keep).findIdx (stands l)] = ps[(ps.take keep).findIdx (stands l)]'(by omega) := List.getElem_take
      rw [he]
      have := joined_lt (ps.take keep)[(ps.take keep).findIdx (stands l)] ((1 + n + (ps.take keep).findIdx (stands l) : Nat) : Int) _ l (Nat.le_refl _) hs
      rw [he] at this
      exact ih _ (by omega)
    · rw [joinAll_none (ps := ps.take keep) h]
end Go.Proofs.Ytcambbnmeiolgaa
namespace Go.Proofs.Ytcambbnmeiolgaa
open Go.RowKit
/-! While a stream is not over: what was given out, and what waits, is what came -/
theorem bI_u8 {x : Int} (h : 0 ≤ x ∧ x < 256) : bI [u8 x] = [x] := by
  have : (u8 x).toNat = x.toNat := by
    unfold u8
    rw [UInt8.toNat_ofNat']
    omega
  simp only [bI, List.map_cons, List.map_nil, this]
  congr 1
  omega
theorem stepU_keep (sts : List (List UInt8)) (s : S3) (b : UInt8) (h0 : s.2.2 = false) (h : (stepU sts s b).2.2 = false) : (stepU sts s b).2.1 ++ bI (stepU sts s b).1 = s.2.1 ++ bI s.1 ++ bI [b] := by
  revert h
  unfold stepU
  rw [if_neg (by rw [h0]; simp)]
  split
  · intro h; cases h
  · intro _
    dsimp only
    rw [List.append_assoc, ← bI_append, List.take_append_drop, bI_append, List.append_assoc]
theorem bytesU_keep (sts : List (List UInt8)) (l : List Int) : ∀ (s : S3), (∀ x ∈ l, 0 ≤ x ∧ x < 256) → s.2.2 = false → (bytesU sts s l).2.2 = false → (bytesU sts s l).2.1 ++ bI (bytesU sts s l).1 = s.2.1 ++ bI s.1 ++ l := by
  induction l with
  | nil => intro s _ _ _; simp [bytesU]
  | cons x l ih =>
    intro s hx h0 h
    have e : bytesU sts s (x :: l) = bytesU sts (stepU sts s (u8 x)) l := rfl
    rw [e] at h ⊢
    cases h1 : (stepU sts s (u8 x)).2.2 with
    | true =>
      rw [bytesU_over sts l _ h1, h1] at h
      cases h
    | false =>
      rw [ih _ (fun y hy => hx y (List.mem_cons_of_mem _ hy)) h1 h, stepU_keep sts s _ h0 h1, bI_u8 (hx x (by simp))]
      simp
/-- the bytes of tokens -/
def cameU (wds : List (List Int)) (l : List Int) : List Int := (l.map fun k => wds.getD k.toNat []).flatten
theorem cameU_snoc (wds : List (List Int)) (l : List Int) (k : Int) : cameU wds (l ++ [k]) = cameU wds l ++ wds.getD k.toNat [] := by simp [cameU]
theorem word_u8 {wds : List (List Int)} (hw : ∀ l ∈ wds, l.length ≤ 16 ∧ ∀ x ∈ l, 0 ≤ x ∧ x < 256) (k : Nat) : ∀ x ∈ wds.getD k [], 0 ≤ x ∧ x < 256 := by
  intro x hx
  obtain ⟨y, hy, hxy⟩ := getD_mem hx
  exact (hw y hy).2 x hxy
theorem feedU_keep (sts : List (List UInt8)) (wds : List (List Int)) (hw : ∀ l ∈ wds, l.length ≤ 16 ∧ ∀ x ∈ l, 0 ≤ x ∧ x < 256) (l : List Int) : ∀ (s : S3), (∀ x ∈ l, 1 ≤ x) → s.2.2 = false → (feedU sts wds s l).2.2 = false → (feedU sts wds s l).2.1 ++ bI (feedU sts wds s l).1 = s.2.1 ++ bI s.1 ++ cameU wds l := by
  induction l with
  | nil => intro s _ _ _; simp [feedU, cameU]
  | cons k l ih =>
    intro s hk h0 h
    have e : feedU sts wds s (k :: l) = feedU sts wds (tokU sts wds s k.toNat) l := rfl
    rw [e] at h ⊢
    have hk1 := hk k (by simp)
    have et : tokU sts wds s k.toNat = bytesU sts s (wds.getD k.toNat []) := by unfold tokU; rw [if_neg (by omega)]
    rw [et] at h ⊢
    cases h1 : (bytesU sts s (wds.getD k.toNat [])).2.2 with
    | true =>
      rw [feedU_over sts wds l _ h1, h1] at h
      cases h
    | false =>
      rw [ih _ (fun y hy => hk y (List.mem_cons_of_mem _ hy)) h1 h, bytesU_keep sts _ s (word_u8 hw _) h0 h1]
      simp [cameU]
/-! Without stop strings: never over by bytes alone; 3 wait at most -/
theorem stepU_nil (s : S3) (b : UInt8) (h0 : s.2.2 = false) : (stepU [] s b).2.2 = false ∧ (stepU [] s b).1.length ≤ 3 := by
  have hl : longest [] (s.1 ++ [b]) = 0 := rfl
  have hh : holdL [] (s.1 ++ [b]) = 0 := rfl
  unfold stepU
  rw [if_neg (by rw [h0]; simp), hl, if_neg (by omega)]
  refine ⟨rfl, ?_⟩
  have hw : waitsL [] (s.1 ++ [b]) ≤ 3 := by
    unfold waitsL
    rw [hh]
    have := tailR_le ((s.1 ++ [b]).take ((s.1 ++ [b]).length - 0)) (min 3 ((s.1 ++ [b]).length - 0))
    omega
  dsimp only
  rw [List.length_drop]
  omega
theorem bytesU_nil (l : List Int) : ∀ (s : S3), s.2.2 = false → s.1.length ≤ 3 → (bytesU [] s l).2.2 = false ∧ (bytesU [] s l).1.length ≤ 3 := by
  induction l with
  | nil => intro s h0 h3; exact ⟨h0, h3⟩
  | cons x l ih =>
    intro s h0 h3
    have h := stepU_nil s (u8 x) h0
    exact ih _ h.1 h.2
theorem feedU_nil (wds : List (List Int)) (l : List Int) : ∀ (s : S3), (∀ x ∈ l, 1 ≤ x) → s.2.2 = false → s.1.length ≤ 3 → (feedU [] wds s l).2.2 = false ∧ (feedU [] wds s l).1.length ≤ 3 := by
  induction l with
  | nil => intro s _ h0 h3; exact ⟨h0, h3⟩
  | cons k l ih =>
    intro s hk h0 h3
    have e : feedU [] wds s (k :: l) = feedU [] wds (tokU [] wds s k.toNat) l := rfl
    have hk1 := hk k (by simp)
    have et : tokU [] wds s k.toNat = bytesU [] s (wds.getD k.toNat []) := by unfold tokU; rw [if_neg (by omega)]
    rw [e, et]
    have h := bytesU_nil (wds.getD k.toNat []) s h0 h3
    exact ih _ (fun y hy => hk y (List.mem_cons_of_mem _ hy)) h.1 h.2
end Go.Proofs.Ytcambbnmeiolgaa
namespace Go.Proofs.Ytcambbnmeiolgaa
open Go.RowKit
section
variable {w w6 : World} {p1 p2 : Nat} {v1 v2 : Value × Value} {wds : List (List Int)} {s1 s2 : List ByteArray} {wr : World} {av bv : Value} {oa ob : List Int} {x1 x2 : List UInt8 × Bool}
/-- Feed of the first stream; other rows stay -/
theorem TwoS.feed2 (h : TwoS w w6 p1 p2 v1 v2 wds s1 s2 wr av bv oa ob x1 x2) (A : Option Addr) (n c : Nat) (l : List Int) (hl : l.length = n) (hn : n ≤ 1099511627776) (hx : Rd wr A (I64 l)) (hA : ∀ b o, A = some ⟨b, o, none⟩ → 0 < n → b ≠ p1) (hok : okTs wds.length l) (S : List UInt8 × List Int × Bool) (hS : feedU (s1.map lst) wds (x1.1, [], x1.2) l = S) :
    Calls Try.prog 18 #[.pointer (some ⟨p1, 0, none⟩), .slice A n c] wr fun en w' => ∃ U uc, en = .returned (.tuple #[.slice U S.2.1.length uc, .int .i64 0]) ∧ w'.ownsRow wr.heap.size 5 1 (.slice U S.2.1.length uc) S.2.1.length (B8 S.2.1) ∧ (∀ (base : Nat) (e : TypeId) (sz : Nat) (v : Value) (n : Nat) (xs : List Value), w6.heap.size ≤ base → wr.ownsRow base e sz v n xs → w'.ownsRow base e sz v n xs) ∧ TwoS w w6 p1 p2 v1 v2 wds s1 s2 w' av bv oa ob (S.1, S.2.2) x2 := by
  subst hS
  refine (feed_anyV A n c l wr p1 v1.1 v1.2 wds s1 x1.1 x1.2 h.str h.t1 hl hn hx hA hok).mono ?_
  rintro en w' ⟨u, rfl, ou, hs, hg⟩
  have hlen := (feedU_len (s1.map lst) wds h.st1.lens (fun x hx => (h.st1.w16 x hx).1) l (x1.1, [], x1.2) h.t1).1
  obtain ⟨U, uc, rfl, _, _⟩ := own_rd ou
  refine ⟨U, uc, rfl, ou, fun base e sz v n xs hb ho => ho.kept hg (.inr (fun he => ?_)), h.move (x := (_, _)) hs hlen hg⟩
  have := (own_lt ho _ he).1
  have := h.lt1
  omega
/-- Close of the first stream; other rows stay -/
theorem TwoS.close2 (h : TwoS w w6 p1 p2 v1 v2 wds s1 s2 wr av bv oa ob x1 x2) (h0 : 0 < wds.length) (o : List Int) (tl : List UInt8) (ho : (if x1.2 then [] else bI x1.1) = o) (ht : (if x1.2 then x1.1 else []) = tl) :
    Calls Try.prog 22 #[.pointer (some ⟨p1, 0, none⟩)] wr fun en w' => ∃ U uc, en = .returned (.slice U o.length uc) ∧ w'.ownsRow wr.heap.size 5 1 (.slice U o.length uc) o.length (B8 o) ∧ (∀ (base : Nat) (e : TypeId) (sz : Nat) (v : Value) (n : Nat) (xs : List Value), w6.heap.size ≤ base → wr.ownsRow base e sz v n xs → w'.ownsRow base e sz v n xs) ∧ TwoS w w6 p1 p2 v1 v2 wds s1 s2 w' av bv oa ob (tl, true) x2 := by
  subst ho ht
  refine (close_bothV wr p1 v1.1 v1.2 wds s1 x1.1 x1.2 h.str h.t1 h0).mono ?_
  rintro en w' ⟨u, rfl, ou, hs, hg⟩
  obtain ⟨U, uc, rfl, _, _⟩ := own_rd ou
  refine ⟨U, uc, rfl, ou, fun base e sz v n xs hb ho => ho.kept hg (.inr (fun he => ?_)), h.move (x := (_, _)) hs (by have := h.t1; dsimp only; split <;> simp_all) hg⟩
  have := (own_lt ho _ he).1
  have := h.lt1
  omega
/-- join onto the first text; other rows stay -/
theorem TwoS.join2 (h : TwoS w w6 p1 p2 v1 v2 wds s1 s2 wr av bv oa ob x1 x2) (base : Nat) (U : Option Addr) (un uc : Nat) (o o' : List Int) (ou : wr.ownsRow base 5 1 (.slice U un uc) o.length (B8 o)) (hu : o.length = un) (hne : ∀ q, (Value.slice U un uc).ownBlock = some q → av.ownBlock ≠ some q) (hs : oa.length + o.length ≤ 70368744177664) (ho' : oa ++ o = o') :
    Calls Try.prog 19 #[av, .slice U un uc] wr fun en w' => ∃ A ac, en = .returned (.slice A o'.length ac) ∧ (∀ (base : Nat) (e : TypeId) (sz : Nat) (v : Value) (n : Nat) (xs : List Value), wr.ownsRow base e sz v n xs → (v.ownBlock = none ∨ v.ownBlock ≠ av.ownBlock) → w'.ownsRow base e sz v n xs) ∧ TwoS w w6 p1 p2 v1 v2 wds s1 s2 w' (.slice A o'.length ac) bv o' ob x1 x2 := by
  subst ho'
  refine (join_any wr w6.heap.size av oa.length oa U un uc o h.ra h.sz hu (own_rdv ou) ?_ (by omega)).mono ?_
  · intro b o' hU hpos
    subst hU
    exact hne b rfl
  · rintro en w' ⟨av', rfl, ho, hg, hor⟩
    have hT := h.text ho (by simp; omega) hg hor
    obtain ⟨A, ac, rfl, _, _⟩ := own_rd hT.ra
    exact ⟨A, ac, rfl, fun base e sz v n xs hr hv => hr.kept hg hv, hT⟩
/-- a row made later is none of the texts' -/
theorem TwoS.fresh (h : TwoS w w6 p1 p2 v1 v2 wds s1 s2 wr av bv oa ob x1 x2) {w' : World} {e : TypeId} {sz n : Nat} {v : Value} {xs : List Value} (ho : w'.ownsRow wr.heap.size e sz v n xs) : (∀ q, v.ownBlock = some q → av.ownBlock ≠ some q) ∧ (∀ q, v.ownBlock = some q → bv.ownBlock ≠ some q) :=
  ⟨fun q hq he => by have := (own_lt ho q hq).1; have := (own_lt h.ra q he).2; omega, fun q hq he => by have := (own_lt ho q hq).1; have := (own_lt h.rb q he).2; omega⟩
end
theorem apart_of {u v : Value} (h : ∀ q, u.ownBlock = some q → v.ownBlock ≠ some q) : u.ownBlock = none ∨ u.ownBlock ≠ v.ownBlock := by
  rcases hq : u.ownBlock with _ | q
  · exact .inl rfl
  · exact .inr (fun he => h q hq he.symm)
end Go.Proofs.Ytcambbnmeiolgaa
namespace Go.Proofs.Ytcambbnmeiolgaa
open Go.RowKit
set_option maxRecDepth 100000 in
set_option maxHeartbeats 2000000 in
/-- bpe.Decode -/
theorem decode_wide (A A' T : Option Addr) (n m t c c' ct : Nat) (bs : List Int) (ps : List (Int × Int)) (l : List Int) (w : World) (hv : Voc w A A' n m bs ps) (hwf : Wf bs ps) (hl : l.length = t) (ht : Rd w T (I64 l)) (hs : t ≤ 2147483648) :
    Calls Try.prog 25 #[.agg #[.slice A n c, .slice A' m c'], .slice T t ct] w fun e w' => ∃ v, e = .returned (.tuple #[v, .int .i64 (errD bs ps l)]) ∧ w'.ownsRow w.heap.size 5 1 v (bytD bs ps l).length (B8 (bytD bs ps l)) ∧ Below w.heap.size w w' := by
  have h0 : Below w.heap.size w (w.alloc (.cells #[.slice A n c, .slice A' m c'] 37)) := by go_grown
  have eN := eN55
  go_enter Try.func25, Try.ntmps25
  go_wp2_with fail
  refine (pieces_any A A' n m c c' bs ps _ (hv.below h0) hwf).mono ?_
  rintro e w1 ⟨hb, hp⟩
  replace hb := bthen h0 hb
  cases hq : vocF bs ps with
  | none =>
    have he : errD bs ps l = 50 := by unfold errD; rw [hq]
    have hy : bytD bs ps l = [] := by unfold bytD; rw [hq]
    rw [hq] at hp
    have HR := Lib.hid he
    have HY := Lib.hid hy
    clear he hq hy
    subst hp
    go_wp2
    go_returns
    refine ⟨.slice none 0 0, by rw [HR.out]; rfl, ?_, hb⟩
    rw [HY.out]
    exact World.ownsRow_nil _ _ _ _
  | some ls =>
    have hT := toks_of hq
    have h1 := hT.len
    have h2 := hT.n64
    obtain ⟨hlb, hnn⟩ : ls.length ≤ 64 ∧ 0 < ls.length := by omega
    have he : errD bs ps l = if l.all (okTok ls.length) then 0 else 52 := by unfold errD; rw [hq]
    have hy : bytD bs ps l = if l.all (okTok ls.length) then flat ls l else [] := by unfold bytD; rw [hq]
    rw [hq] at hp
    obtain ⟨g, cap, vals, rfl, ho, hp⟩ := hp
    clear hq h1 h2
    have HR := Lib.hid he
    have HY := Lib.hid hy
    clear he hy
    replace ht := ht.below hb
    have hfz : ∀ (i : Nat) (v : Value), vals[i]? = some v → ∀ j, v.ownBlock = some j → j < w1.heap.size := fun i v hv j hj => (hp.lt i v hv j hj).2
    go_wp2
    go_loopw [7, 16] (fun ov i wr => ∃ k : Nat, k ≤ t ∧ i = .int .i64 (k : Int) ∧ (l.take k).all (okTok ls.length) = true ∧ wr.ownsRow w1.heap.size 5 1 ov (flat ls (l.take k)).length (B8 (flat ls (l.take k))) ∧ Below w1.heap.size w1 wr) (fun _ i _ => t - (intOf i).toNat)
    case atStart => exact ⟨0, by omega, rfl, rfl, World.ownsRow_nil _ _ _ _, Below.refl _ _⟩
    case round =>
      obtain ⟨k, hk, rfl, hall, oo, hb2⟩ := hrel
      obtain ⟨Ao, co, rfl, _, _⟩ := own_rd oo
      have AL := Lib.hid hall
      clear hall
      by_cases hlt : k < t
      · obtain ⟨b, o, rfl, y1⟩ := (ht.below hb2).i64 k (by omega)
        have ea := addr_add b o k
        have TK := Lib.hid (List.take_succ_eq_append_getElem (show k < l.length by omega))
        have hmem : l[k]'(by omega) ∈ l := List.getElem_mem _
        generalize l[k]'(by omega) = x at *
        by_cases hbad : x < 0 ∨ (ls.length : Int) ≤ x
        · have hr : ¬ (l.all (okTok ls.length) = true) := by
            intro h
            have := List.all_eq_true.1 h x hmem
            simp [okTok] at this
            omega
          have NR := Lib.hid hr
          clear hr hmem
          by_cases z : x < 0
          · clear hbad
            go_wp2
            go_returns
            refine ⟨.slice none 0 0, by rw [HR.out, if_neg NR.out]; rfl, ?_, bthen hb hb2⟩
            rw [HY.out, if_neg NR.out]
            exact World.ownsRow_nil _ _ _ _
          · have z2 : (ls.length : Int) ≤ x := by omega
            clear hbad
            go_wp2
            go_returns
            refine ⟨.slice none 0 0, by rw [HR.out, if_neg NR.out]; rfl, ?_, bthen hb hb2⟩
            rw [HY.out, if_neg NR.out]
            exact World.ownsRow_nil _ _ _ _
        · clear hmem
          obtain ⟨q, rfl⟩ : ∃ q : Nat, x = (q : Int) := ⟨x.toNat, by omega⟩
          have hq : q < ls.length := by omega
          have hx : okTok ls.length (q : Int) = true := by simp [okTok]; omega
          have HX := Lib.hid hx
          clear hbad hx
          obtain ⟨v, hv1, ov⟩ := hp.get q hq
          have c3 := own_cell (own_below ho hb2) q _ hv1
          have ea2 : (⟨g, 0, none⟩ : Addr).add q = ⟨g, q, none⟩ := by simpa using addr_add g 0 q
          have ov' : wr.ownsRow w.heap.size 5 1 v (tok ls q).length (B8 (tok ls q)) := own_base (own_below ov hb2) (by simp)
          obtain ⟨va, vc, rfl, _, _⟩ := own_rd ov'
          have hsz : (tok ls q).length ≤ 16 := hT.small q
          have hfl := flat_small hT (l.take k)
          have hfl2 : (l.take k).length ≤ t := by simp; omega
          have FS := Lib.hid (flat_snoc ls (l.take k) (q : Int))
          clear ov
          go_wp2_with (at_builtin; refine appRow (w0 := w1) w1.heap.size rfl _ _ 34 5 (.int .u8 0) 1 rfl Try.underlying34 info5 rfl (by decide) (.slice Ao (flat ls (l.take k)).length co) (flat ls (l.take k)).length (B8 (flat ls (l.take k))) va (tok ls q).length vc (B8 (tok ls q)) rfl rfl (B8_length _) (B8_one _) (own_rdA ov') oo hb2 hb2.size (by omega) ?_; intro v1 w4 o1 hb5 hg5 hat5)
          go_roundw
          case rel =>
            refine ⟨k + 1, by omega, by go_num, ?_, ?_, hb5⟩
            · rw [TK.out, List.all_append, AL.out]
              simpa using HX.out
            · rw [TK.out, FS.out, List.length_append, B8_append]
              simpa using o1
          case measure => simp [intOf]; omega
      · obtain rfl : t = k := by omega
        have hr : l.all (okTok ls.length) = true := by
          have := AL.out
          rwa [List.take_of_length_le (by omega)] at this
        have hfe : flat ls (l.take t) = flat ls l := by rw [List.take_of_length_le (by omega)]
        generalize flat ls (l.take t) = F at *
        have FE := Lib.hid hfe
        have NR := Lib.hid hr
        clear hr hfe
        go_wp2
        go_returns
        refine ⟨_, by rw [HR.out, if_pos NR.out]; rfl, ?_, bthen hb hb2⟩
        rw [HY.out, if_pos NR.out, ← FE.out]
        exact own_base oo hb.size
/-- of right tokens -/
theorem dec_ok {bs : List Int} {ps : List (Int × Int)} {l : List Int} (h : okTs (toks bs ps).length l) (h2 : 2 ≤ (toks bs ps).length) : errD bs ps l = 0 ∧ bytD bs ps l = cameU (toks bs ps) l := by
  unfold toks at h h2 ⊢
  unfold errD bytD
  cases hq : vocF bs ps with
  | none => rw [hq] at h2; simp at h2
  | some ls =>
    rw [hq] at h
    have hall : l.all (okTok ls.length) = true := by
      rw [List.all_eq_true]
      intro x hx
      unfold okTok
      exact decide_eq_true (h x hx)
    dsimp only
    rw [if_pos hall, if_pos hall]
    refine ⟨rfl, ?_⟩
    unfold flat cameU
    rw [List.flatMap_def]
    rfl
end Go.Proofs.Ytcambbnmeiolgaa
namespace Go.Proofs.Ytcambbnmeiolgaa
open Go.RowKit
theorem newE_nil {bs : List Int} {ps : List (Int × Int)} (h : newE bs ps [] ≠ 0) : vocF bs ps = none := by
  cases hq : vocF bs ps with
  | none => rfl
  | some ls => exact absurd (newE_ok hq (by simp) (by simp)) h
theorem newE_nil0 {bs : List Int} {ps : List (Int × Int)} (h : newE bs ps [] = 0) : ∃ ls, vocF bs ps = some ls := by
  cases hq : vocF bs ps with
  | none => rw [newE_voc hq] at h; cases h
  | some ls => exact ⟨ls, rfl⟩
theorem baseT_pos {bs : List Int} {b : Int} (h : b ∈ bs) : 1 ≤ baseT bs b := by
  unfold baseT
  rw [if_pos h]
  omega
theorem enc_pos {bs : List Int} {ps : List (Int × Int)} {x : List Int} : ∀ y ∈ encL bs ps x, 1 ≤ y := by
  unfold encL
  cases vocF bs ps with
  | none => intro y hy; cases hy
  | some ls =>
    dsimp only
    split
    · refine joinAll_ind (Q := fun l => ∀ y ∈ l, 1 ≤ y) (fun l hl j hj => ?_) _ _ (Nat.le_refl _) ?_
      · exact joined_mem ps[j] (P := fun y => 1 ≤ y) (by show (1 : Int) ≤ _; omega) _ l (Nat.le_refl _) hl
      · intro y hy
        obtain ⟨b, hb, rfl⟩ := List.mem_map.1 hy
        rename_i hall
        rw [List.all_eq_true] at hall
        exact baseT_pos (of_decide_eq_true (hall b hb))
    · intro y hy; cases hy
/-- what Encode answers, and what its tokens are -/
theorem enc_what {bs : List Int} {ps : List (Int × Int)} {ls : List (List Int)} (hq : vocF bs ps = some ls) (x : List Int) : errE bs ps x = 51 ∨ (errE bs ps x = 0 ∧ okTs (toks bs ps).length (encL bs ps x) ∧ cameU (toks bs ps) (encL bs ps x) = x) := by
  have he : errE bs ps x = if x.all (fun b => decide (b ∈ bs)) then 0 else 51 := by unfold errE; rw [hq]
  cases hx : x.all (fun b => decide (b ∈ bs)) with
  | false => left; rw [he, hx]; rfl
  | true =>
    right
    obtain ⟨h1, h2⟩ := round_ok hq hx
    have hok : okTs (toks bs ps).length (encL bs ps x) := by
      unfold errD at h1
      rw [hq] at h1
      dsimp only at h1
      split at h1
      · rename_i hall
        rw [List.all_eq_true] at hall
        intro y hy
        have := of_decide_eq_true (hall y hy)
        unfold toks
        rw [hq]
        exact this
      · cases h1
    have h3 : 2 ≤ (toks bs ps).length := newE_some (newE_ok (strs := []) hq (by simp) (by simp))
    exact ⟨by rw [he, hx]; rfl, hok, by rw [← (dec_ok hok h3).2]; exact h2⟩
theorem enc_len (bs : List Int) (ps : List (Int × Int)) (x : List Int) : (encL bs ps x).length ≤ x.length := by
  unfold encL
  cases vocF bs ps with
  | none => simp
  | some ls =>
    dsimp only
    split
    · exact Nat.le_trans (joinAll_len _ _ _ _ (Nat.le_refl _)) (by simp)
    · simp
set_option maxRecDepth 100000 in
set_option maxHeartbeats 16000000 in
/-- TextWhole -/
theorem whole_law (A A' B K : Option Addr) (n m tn kn c c' tc kc : Nat) (bs : List Int) (ps : List (Int × Int)) (x cuts : List Int) (w : World) (hv : Voc w A A' n m bs ps) (hwf : Wf bs ps) (hx : x.length = tn) (rB : Rd w B (B8 x)) (hwx : ∀ b ∈ x, (Lit.int .u8 b).wf = true) (hk : cuts.length = kn) (rk : Rd w K (I64 cuts)) (hkn : kn ≤ 140737488355328) :
    Calls Try.prog 10 #[.agg #[.slice A n c, .slice A' m c'], .slice B tn tc, .slice K kn kc] w fun e w' => e = .returned (.bool true) ∧ Below w.heap.size w w' := by
  have h0 : Below w.heap.size w (w.alloc (.cells #[.slice A n c, .slice A' m c'] 37)) := by go_grown
  have q0 := Blk.new w #[.slice A n c, .slice A' m c'] 37
  have RB := Lib.hid rB
  have RK := Lib.hid rk
  have WX := Lib.hid hwx
  clear rB rk hwx
  go_enter Try.func10, Try.ntmps10
  go_wp2_with fail
  refine (long_any _ _).mono ?_
  rintro e w1 ⟨rfl, rfl⟩
  by_cases g1 : (2147483647 : Int) < tn
  · go_wp2
    go_returns
    exact ⟨rfl, h0⟩
  · go_wp2_with fail
    refine (fixed_any _).mono ?_
    rintro e w2 ⟨rfl, hb⟩
    replace q0 := q0.below hb
    replace hb := bthen h0 hb
    have hl2 := q0.lt
    have y0 : w2.cell? ⟨w.heap.size, 0, none⟩ = some (.slice A n c) := q0.cell _
    have y1 : w2.cell? ⟨w.heap.size, 1, none⟩ = some (.slice A' m c') := q0.cell _
    go_wp2_with fail
    refine (encode_any A A' B n m tn c c' tc bs ps x w2 (hv.below hb) hwf hx (RB.out.below hb) WX.out (by omega)).mono ?_
    rintro e w3 ⟨ve, rfl, oe, hb3⟩
    obtain ⟨uA, uc, rfl, hcap, _⟩ := own_rd oe
    have hel := enc_len bs ps x
    replace q0 := q0.below hb3
    replace hb := bthen hb hb3
    have hl3 := q0.lt
    clear y0 y1 hb3
    have y0 : w3.cell? ⟨w.heap.size, 0, none⟩ = some (.slice A n c) := q0.cell _
    have y1 : w3.cell? ⟨w.heap.size, 1, none⟩ = some (.slice A' m c') := q0.cell _
    go_wp2_with fail
    refine (new_any A A' none n m 0 c c' 0 bs ps [] w3 (hv.below hb) hwf rfl (.inl rfl) (by omega)).mono ?_
    rintro e w4 ⟨hb4, h4⟩
    replace q0 := q0.below hb4
    replace hb := bthen hb hb4
    replace oe := own_below oe hb4
    clear y0 y1
    have y0 : w4.cell? ⟨w.heap.size, 0, none⟩ = some (.slice A n c) := q0.cell _
    have y1 : w4.cell? ⟨w.heap.size, 1, none⟩ = some (.slice A' m c') := q0.cell _
    have N2 := Lib.hid (new_any A A' none n m 0 c c' 0 bs ps [] w4 (hv.below hb) hwf rfl (.inl rfl) (by omega))
    rcases h4 with ⟨hne, rfl⟩ | ⟨he0, p, hp, rfl, hs⟩
    · have hq := newE_nil hne
      have e5 : newE bs ps [] = 50 := newE_voc hq
      have e6 : errE bs ps x = 50 := by unfold errE; rw [hq]
      rw [e5, e6]
      clear hne e6
      go_wp2_with fail
      refine N2.out.mono ?_
      rintro e w5 ⟨hb5, (⟨_, rfl⟩ | ⟨he0, _⟩)⟩
      · rw [e5]
        have HB := Lib.hid (bthen hb hb5)
        clear hb hb5 q0 y0 y1 N2
        go_wp2
        go_returns
        exact ⟨rfl, HB.out⟩
      · rw [e5] at he0; cases he0
    · obtain ⟨ls, hq⟩ := newE_nil0 he0
      have hpl0 := hs.lt
      go_wp2_with fail
      refine N2.out.mono ?_
      rintro e w6 ⟨hb6, (⟨hne, _⟩ | ⟨_, p2, hp2, rfl, hs2⟩)⟩
      · exact absurd he0 hne
      · rcases enc_what hq x with e51 | ⟨e0, hok, hcame⟩
        · rw [e51]
          have HB := Lib.hid (bthen hb hb6)
          clear hb hb6 q0 y0 y1 N2 hs hs2
          go_wp2
          go_returns
          exact ⟨rfl, HB.out⟩
        · rw [e0]
          replace hs := hs.below hb6
          replace hb := bthen hb hb6
          replace oe := own_below oe hb6
          have htk := newE_some he0
          have hwp : w.heap.size < p := by omega
          have hwp2 : w.heap.size < p2 := by omega
          obtain ⟨v1, v2, hT0⟩ := two_new hb hs hs2 (by omega) (by omega) (by omega)
          have RP := Lib.hid (@enc_pos bs ps x)
          clear y0 y1 hb6 hs hs2 hb q0 N2 he0 e0 hv hp hp2 hl2 h0
          generalize encL bs ps x = all at *
          obtain ⟨wds, hwds⟩ : ∃ wds, toks bs ps = wds := ⟨_, rfl⟩
          rw [hwds] at hT0 htk hok hcame
          clear hwds hq
          have HC := Lib.hid hcame
          have OK := Lib.hid hok
          have HL1 := Lib.hid (fun j => cutF_len ([] : List (List UInt8)) wds (fun s hs => by cases hs) (fun y hy => (hT0.st1.w16 y hy).1) all j)
          have NV := Lib.hid (show ∀ j, (cutF [] wds all j).2.2 = false ∧ (cutF [] wds all j).1.length ≤ 3 from fun j => feedU_nil wds (all.take j) ([], [], false) (fun y hy => RP.out y (List.mem_of_mem_take hy)) rfl (by simp))
          have KP := Lib.hid (fun j => feedU_keep ([] : List (List UInt8)) wds hT0.st1.w16 (all.take j) ([], [], false) (fun y hy => RP.out y (List.mem_of_mem_take hy)) rfl (NV.out j).1)
          have OE := Lib.hid oe
          clear oe hcame hok
          go_wp2
          go_loopw [14, 15, 16, 17, 18, 19, 20, 21, 22] (fun av bv ai i _ _ _ _ _ wr => ∃ a k : Nat, a ≤ all.length ∧ k ≤ a ∧ ai = .int .i64 (a : Int) ∧ i = .int .i64 (k : Int) ∧ TwoS w w6 p p2 v1 v2 wds [] [] wr av bv (cutF [] wds all a).2.1 (cutF [] wds all a).2.1 ((cutF [] wds all a).1, false) ((cutF [] wds all a).1, false)) (fun _ _ ai _ _ _ _ _ _ _ => all.length - (intOf ai).toNat)
          case atStart => exact ⟨0, 0, by omega, by omega, rfl, rfl, hT0⟩
          case round =>
            obtain ⟨a, k, ha, hka, rfl, rfl, hT⟩ := hrel
            obtain ⟨aA, ac, rfl, _, _⟩ := own_rd hT.ra
            obtain ⟨bA, bc, rfl, _, _⟩ := own_rd hT.rb
            by_cases hlt : a < all.length
            · have g2 : (a : Int) < (all.length : Int) := by omega
              have rku := RK.out.below hT.bl
              obtain ⟨g, rfl⟩ : ∃ g, uA = some ⟨g, 0, none⟩ := by
                rcases OE.out.2 with ⟨_, h⟩ | ⟨g, _, _, h, _⟩
                · omega
                · injection h with h1; exact ⟨g, h1⟩
              have ea := addr_add g 0 a
              rw [Nat.zero_add] at ea
              obtain ⟨nn, hnn⟩ : ∃ nn : Nat, (all.length : Int) - (a : Int) = (nn : Int) := ⟨all.length - a, by omega⟩
              have hs8 : (a : Int) + (nn : Int) ≤ 2147483700 := by omega
              have hn1 : 1 ≤ nn := by omega
              by_cases hkk : k < kn
              · have g3 : (k : Int) < (kn : Int) := by omega
                obtain ⟨b, of, rfl, y9⟩ := rku.i64 k (by omega)
                have eb := addr_add b of k
                generalize cuts[k]'(by omega) = z at *
                by_cases hz0 : 0 < z
                · obtain ⟨r, hr⟩ : ∃ r : Nat, z = (r : Int) := ⟨z.toNat, by omega⟩
                  subst hr
                  by_cases hgt : nn < r
                  · have g4 : (nn : Int) < (r : Int) := by omega
                    clear rku
                    have FA := Lib.hid (cutF_add ([] : List (List UInt8)) wds all a nn)
                    have NA := (NV.out a).1
                    have NB := (NV.out (a + nn)).1
                    rw [NA] at FA
                    obtain ⟨Sx, hSx⟩ : ∃ Sx, feedU [] wds ((cutF [] wds all a).1, [], false) ((all.drop a).take nn) = Sx := ⟨_, rfl⟩
                    have SX := Lib.hid hSx
                    have FB := FA.out
                    rw [hSx] at FB
                    have hz : (cutF [] wds all a).2.1.length + Sx.2.1.length ≤ 70368744177664 := by
                      have := HL1.out (a + nn)
                      rw [FB] at this
                      simp only [sh, List.length_append] at this
                      omega
                    have hov : Sx.2.2 = false := by rw [FB] at NB; exact NB
                    have hO : (cutF [] wds all a).2.1 ++ Sx.2.1 = (cutF [] wds all (a + nn)).2.1 := by rw [FB]; rfl
                    have hT' : (cutF [] wds all (a + nn)).1 = Sx.1 := by rw [FB]; rfl
                    have HO := Lib.hid hO
                    have HTT := Lib.hid hT'
                    have hF1 := hT.feed2 (some ⟨g, a, none⟩) nn (uc - a) ((all.drop a).take nn) (by rw [List.length_take, List.length_drop]; omega) (by omega) (rd_piece (own_rdv (hT.ints (by decide) OE.out)) a nn (by omega)) (fun b o h _ => by cases h; obtain ⟨cs, hb⟩ := hT.b1; exact fun he => hb.not_row (by decide) OE.out (by rw [← he]; rfl)) (fun y hy => OK.out y (List.mem_of_mem_drop (List.mem_of_mem_take hy))) Sx hSx
                    clear FA FB NA NB hSx hO hT'
                    go_wp2_with fail
                    refine hF1.mono ?_
                    clear hF1
                    rintro e wB ⟨uB, ub, rfl, ou2, _, hT3⟩
                    have hF2 := hT3.swap.feed2 (some ⟨g, a, none⟩) nn (uc - a) ((all.drop a).take nn) (by rw [List.length_take, List.length_drop]; omega) (by omega) (rd_piece (own_rdv (hT3.ints (by decide) OE.out)) a nn (by omega)) (fun b o h _ => by cases h; obtain ⟨cs, hb⟩ := hT3.b2; exact fun he => hb.not_row (by decide) OE.out (by rw [← he]; rfl)) (fun y hy => OK.out y (List.mem_of_mem_drop (List.mem_of_mem_take hy))) Sx SX.out
                    go_wp2_with fail
                    refine hF2.mono ?_
                    clear hF2
                    rintro e wC ⟨uC, ud, rfl, ou3, kp3, hT4⟩
                    have ap2 := hT.fresh ou2
                    have ap3 := hT3.fresh ou3
                    have ou2' := kp3 _ _ _ _ _ _ hT.sz ou2
                    clear hT hT3 kp3 ou2
                    replace hT4 := hT4.swap
                    go_wp2_with fail
                    refine (hT4.join2 _ uB _ ub Sx.2.1 _ ou2' rfl (fun q hq => ap2.1 q hq) hz HO.out).mono ?_
                    rintro e wD ⟨aB, ad, rfl, kp4, hT5⟩
                    have ou3' := kp4 _ _ _ _ _ _ ou3 (apart_of (fun q hq => ap3.1 q hq))
                    clear hT4 kp4 ou3 ou2'
                    go_wp2_with fail
                    refine (hT5.swap.join2 _ uC _ ud Sx.2.1 _ ou3' rfl (fun q hq => ap3.2 q hq) hz HO.out).mono ?_
                    rintro e wE ⟨bB, bd, rfl, _, hT6⟩
                    replace hT6 := hT6.swap
                    rw [hov, ← HTT.out] at hT6
                    have HT := Lib.hid hT6
                    clear hT5 ou3' hT6 hz hov
                    go_wp2
                    go_roundw
                    case rel => exact ⟨a + nn, k + 1, by omega, by omega, by go_num, by go_num, HT.out⟩
                    case measure => simp [intOf]; omega
                  · have g4 : ¬ (nn : Int) < (r : Int) := by omega
                    have hs9 : (a : Int) + (r : Int) ≤ 2147483700 := by omega
                    have hr9 : 0 ≤ (r : Int) := by omega
                    clear rku
                    have FA := Lib.hid (cutF_add ([] : List (List UInt8)) wds all a r)
                    have NA := (NV.out a).1
                    have NB := (NV.out (a + r)).1
                    rw [NA] at FA
                    obtain ⟨Sx, hSx⟩ : ∃ Sx, feedU [] wds ((cutF [] wds all a).1, [], false) ((all.drop a).take r) = Sx := ⟨_, rfl⟩
                    have SX := Lib.hid hSx
                    have FB := FA.out
                    rw [hSx] at FB
                    have hz : (cutF [] wds all a).2.1.length + Sx.2.1.length ≤ 70368744177664 := by
                      have := HL1.out (a + r)
                      rw [FB] at this
                      simp only [sh, List.length_append] at this
                      omega
                    have hov : Sx.2.2 = false := by rw [FB] at NB; exact NB
                    have hO : (cutF [] wds all a).2.1 ++ Sx.2.1 = (cutF [] wds all (a + r)).2.1 := by rw [FB]; rfl
                    have hT' : (cutF [] wds all (a + r)).1 = Sx.1 := by rw [FB]; rfl
                    have HO := Lib.hid hO
                    have HTT := Lib.hid hT'
                    have hF1 := hT.feed2 (some ⟨g, a, none⟩) r (uc - a) ((all.drop a).take r) (by rw [List.length_take, List.length_drop]; omega) (by omega) (rd_piece (own_rdv (hT.ints (by decide) OE.out)) a r (by omega)) (fun b o h _ => by cases h; obtain ⟨cs, hb⟩ := hT.b1; exact fun he => hb.not_row (by decide) OE.out (by rw [← he]; rfl)) (fun y hy => OK.out y (List.mem_of_mem_drop (List.mem_of_mem_take hy))) Sx hSx
                    clear FA FB NA NB hSx hO hT'
                    go_wp2_with fail
                    refine hF1.mono ?_
                    clear hF1
                    rintro e wB ⟨uB, ub, rfl, ou2, _, hT3⟩
                    have hF2 := hT3.swap.feed2 (some ⟨g, a, none⟩) r (uc - a) ((all.drop a).take r) (by rw [List.length_take, List.length_drop]; omega) (by omega) (rd_piece (own_rdv (hT3.ints (by decide) OE.out)) a r (by omega)) (fun b o h _ => by cases h; obtain ⟨cs, hb⟩ := hT3.b2; exact fun he => hb.not_row (by decide) OE.out (by rw [← he]; rfl)) (fun y hy => OK.out y (List.mem_of_mem_drop (List.mem_of_mem_take hy))) Sx SX.out
                    go_wp2_with fail
                    refine hF2.mono ?_
                    clear hF2
                    rintro e wC ⟨uC, ud, rfl, ou3, kp3, hT4⟩
                    have ap2 := hT.fresh ou2
                    have ap3 := hT3.fresh ou3
                    have ou2' := kp3 _ _ _ _ _ _ hT.sz ou2
                    clear hT hT3 kp3 ou2
                    replace hT4 := hT4.swap
                    go_wp2_with fail
                    refine (hT4.join2 _ uB _ ub Sx.2.1 _ ou2' rfl (fun q hq => ap2.1 q hq) hz HO.out).mono ?_
                    rintro e wD ⟨aB, ad, rfl, kp4, hT5⟩
                    have ou3' := kp4 _ _ _ _ _ _ ou3 (apart_of (fun q hq => ap3.1 q hq))
                    clear hT4 kp4 ou3 ou2'
                    go_wp2_with fail
                    refine (hT5.swap.join2 _ uC _ ud Sx.2.1 _ ou3' rfl (fun q hq => ap3.2 q hq) hz HO.out).mono ?_
                    rintro e wE ⟨bB, bd, rfl, _, hT6⟩
                    replace hT6 := hT6.swap
                    rw [hov, ← HTT.out] at hT6
                    have HT := Lib.hid hT6
                    clear hT5 ou3' hT6 hz hov
                    go_wp2
                    go_roundw
                    case rel => exact ⟨a + r, k + 1, by omega, by omega, by go_num, by go_num, HT.out⟩
                    case measure => simp [intOf]; omega
                · have g4 : ¬ (nn : Int) < 1 := by omega
                  clear rku
                  have FA := Lib.hid (cutF_add ([] : List (List UInt8)) wds all a 1)
                  have NA := (NV.out a).1
                  have NB := (NV.out (a + 1)).1
                  rw [NA] at FA
                  obtain ⟨Sx, hSx⟩ : ∃ Sx, feedU [] wds ((cutF [] wds all a).1, [], false) ((all.drop a).take 1) = Sx := ⟨_, rfl⟩
                  have SX := Lib.hid hSx
                  have FB := FA.out
                  rw [hSx] at FB
                  have hz : (cutF [] wds all a).2.1.length + Sx.2.1.length ≤ 70368744177664 := by
                    have := HL1.out (a + 1)
                    rw [FB] at this
                    simp only [sh, List.length_append] at this
                    omega
                  have hov : Sx.2.2 = false := by rw [FB] at NB; exact NB
                  have hO : (cutF [] wds all a).2.1 ++ Sx.2.1 = (cutF [] wds all (a + 1)).2.1 := by rw [FB]; rfl
                  have hT' : (cutF [] wds all (a + 1)).1 = Sx.1 := by rw [FB]; rfl
                  have HO := Lib.hid hO
                  have HTT := Lib.hid hT'
                  have hF1 := hT.feed2 (some ⟨g, a, none⟩) 1 (uc - a) ((all.drop a).take 1) (by rw [List.length_take, List.length_drop]; omega) (by omega) (rd_piece (own_rdv (hT.ints (by decide) OE.out)) a 1 (by omega)) (fun b o h _ => by cases h; obtain ⟨cs, hb⟩ := hT.b1; exact fun he => hb.not_row (by decide) OE.out (by rw [← he]; rfl)) (fun y hy => OK.out y (List.mem_of_mem_drop (List.mem_of_mem_take hy))) Sx hSx
                  clear FA FB NA NB hSx hO hT'
                  go_wp2_with fail
                  refine hF1.mono ?_
                  clear hF1
                  rintro e wB ⟨uB, ub, rfl, ou2, _, hT3⟩
                  have hF2 := hT3.swap.feed2 (some ⟨g, a, none⟩) 1 (uc - a) ((all.drop a).take 1) (by rw [List.length_take, List.length_drop]; omega) (by omega) (rd_piece (own_rdv (hT3.ints (by decide) OE.out)) a 1 (by omega)) (fun b o h _ => by cases h; obtain ⟨cs, hb⟩ := hT3.b2; exact fun he => hb.not_row (by decide) OE.out (by rw [← he]; rfl)) (fun y hy => OK.out y (List.mem_of_mem_drop (List.mem_of_mem_take hy))) Sx SX.out
                  go_wp2_with fail
                  refine hF2.mono ?_
                  clear hF2
                  rintro e wC ⟨uC, ud, rfl, ou3, kp3, hT4⟩
                  have ap2 := hT.fresh ou2
                  have ap3 := hT3.fresh ou3
                  have ou2' := kp3 _ _ _ _ _ _ hT.sz ou2
                  clear hT hT3 kp3 ou2
                  replace hT4 := hT4.swap
                  go_wp2_with fail
                  refine (hT4.join2 _ uB _ ub Sx.2.1 _ ou2' rfl (fun q hq => ap2.1 q hq) hz HO.out).mono ?_
                  rintro e wD ⟨aB, ad, rfl, kp4, hT5⟩
                  have ou3' := kp4 _ _ _ _ _ _ ou3 (apart_of (fun q hq => ap3.1 q hq))
                  clear hT4 kp4 ou3 ou2'
                  go_wp2_with fail
                  refine (hT5.swap.join2 _ uC _ ud Sx.2.1 _ ou3' rfl (fun q hq => ap3.2 q hq) hz HO.out).mono ?_
                  rintro e wE ⟨bB, bd, rfl, _, hT6⟩
                  replace hT6 := hT6.swap
                  rw [hov, ← HTT.out] at hT6
                  have HT := Lib.hid hT6
                  clear hT5 ou3' hT6 hz hov
                  go_wp2
                  go_roundw
                  case rel => exact ⟨a + 1, k + 1, by omega, by omega, by go_num, by go_num, HT.out⟩
                  case measure => simp [intOf]; omega
              · have g3 : ¬ (k : Int) < (kn : Int) := by omega
                have g4 : ¬ (nn : Int) < 1 := by omega
                clear rku
                have FA := Lib.hid (cutF_add ([] : List (List UInt8)) wds all a 1)
                have NA := (NV.out a).1
                have NB := (NV.out (a + 1)).1
                rw [NA] at FA
                obtain ⟨Sx, hSx⟩ : ∃ Sx, feedU [] wds ((cutF [] wds all a).1, [], false) ((all.drop a).take 1) = Sx := ⟨_, rfl⟩
                have SX := Lib.hid hSx
                have FB := FA.out
                rw [hSx] at FB
                have hz : (cutF [] wds all a).2.1.length + Sx.2.1.length ≤ 70368744177664 := by
                  have := HL1.out (a + 1)
                  rw [FB] at this
                  simp only [sh, List.length_append] at this
                  omega
                have hov : Sx.2.2 = false := by rw [FB] at NB; exact NB
                have hO : (cutF [] wds all a).2.1 ++ Sx.2.1 = (cutF [] wds all (a + 1)).2.1 := by rw [FB]; rfl
                have hT' : (cutF [] wds all (a + 1)).1 = Sx.1 := by rw [FB]; rfl
                have HO := Lib.hid hO
                have HTT := Lib.hid hT'
                have hF1 := hT.feed2 (some ⟨g, a, none⟩) 1 (uc - a) ((all.drop a).take 1) (by rw [List.length_take, List.length_drop]; omega) (by omega) (rd_piece (own_rdv (hT.ints (by decide) OE.out)) a 1 (by omega)) (fun b o h _ => by cases h; obtain ⟨cs, hb⟩ := hT.b1; exact fun he => hb.not_row (by decide) OE.out (by rw [← he]; rfl)) (fun y hy => OK.out y (List.mem_of_mem_drop (List.mem_of_mem_take hy))) Sx hSx
                clear FA FB NA NB hSx hO hT'
                go_wp2_with fail
                refine hF1.mono ?_
                clear hF1
                rintro e wB ⟨uB, ub, rfl, ou2, _, hT3⟩
                have hF2 := hT3.swap.feed2 (some ⟨g, a, none⟩) 1 (uc - a) ((all.drop a).take 1) (by rw [List.length_take, List.length_drop]; omega) (by omega) (rd_piece (own_rdv (hT3.ints (by decide) OE.out)) a 1 (by omega)) (fun b o h _ => by cases h; obtain ⟨cs, hb⟩ := hT3.b2; exact fun he => hb.not_row (by decide) OE.out (by rw [← he]; rfl)) (fun y hy => OK.out y (List.mem_of_mem_drop (List.mem_of_mem_take hy))) Sx SX.out
                go_wp2_with fail
                refine hF2.mono ?_
                clear hF2
                rintro e wC ⟨uC, ud, rfl, ou3, kp3, hT4⟩
                have ap2 := hT.fresh ou2
                have ap3 := hT3.fresh ou3
                have ou2' := kp3 _ _ _ _ _ _ hT.sz ou2
                clear hT hT3 kp3 ou2
                replace hT4 := hT4.swap
                go_wp2_with fail
                refine (hT4.join2 _ uB _ ub Sx.2.1 _ ou2' rfl (fun q hq => ap2.1 q hq) hz HO.out).mono ?_
                rintro e wD ⟨aB, ad, rfl, kp4, hT5⟩
                have ou3' := kp4 _ _ _ _ _ _ ou3 (apart_of (fun q hq => ap3.1 q hq))
                clear hT4 kp4 ou3 ou2'
                go_wp2_with fail
                refine (hT5.swap.join2 _ uC _ ud Sx.2.1 _ ou3' rfl (fun q hq => ap3.2 q hq) hz HO.out).mono ?_
                rintro e wE ⟨bB, bd, rfl, _, hT6⟩
                replace hT6 := hT6.swap
                rw [hov, ← HTT.out] at hT6
                have HT := Lib.hid hT6
                clear hT5 ou3' hT6 hz hov
                go_wp2
                go_roundw
                case rel => exact ⟨a + 1, k + 1, by omega, by omega, by go_num, by go_num, HT.out⟩
                case measure => simp [intOf]; omega
            · obtain rfl : a = all.length := by omega
              have hkp := KP.out all.length
              have hcl := HC.out
              rw [List.take_length] at hkp
              rw [hcl] at hkp
              have hkp2 : (cutF [] wds all all.length).2.1 ++ bI (cutF [] wds all all.length).1 = x := by unfold cutF; rw [List.take_length]; exact hkp
              have hT3l := (NV.out all.length).2
              obtain ⟨o, ho⟩ : ∃ o, (cutF [] wds all all.length).2.1 = o := ⟨_, rfl⟩
              obtain ⟨tl, htl⟩ : ∃ tl, (cutF [] wds all all.length).1 = tl := ⟨_, rfl⟩
              rw [ho, htl] at hT hkp2
              rw [htl] at hT3l
              rw [ho]
              clear ho htl hkp hcl
              have HKP := Lib.hid hkp2
              have hol : o.length + tl.length = x.length := by rw [← hkp2, List.length_append, bI_length]
              have h00 : 0 < wds.length := by omega
              have hle := HL1.out 0
              clear hkp2 hle
              go_wp2_with fail
              have k3 := Blk.new wr #[.int .i64 0] 3
              have h3 : Below wr.heap.size wr (wr.alloc (.cells #[.int .i64 0] 3)) := by go_grown
              have hF := (hT.below h3).swap.feed2 (some ⟨wr.heap.size, 0, none⟩) 1 1 [0] rfl (by omega) (blk_rd k3 rfl) (fun b o h _ => by cases h; have := hT.swap.lt1; have := hT.sz; omega) (fun y hy => by rw [List.mem_singleton.1 hy]; omega) ([], bI tl, true) rfl
              refine hF.mono ?_
              clear hF
              rintro e wB ⟨uB, ub, rfl, ou2, _, hT4⟩
              have ap2 := (hT.below h3).fresh ou2
              clear k3 h3 hT
              go_wp2_with fail
              refine (hT4.join2 _ uB _ ub (bI tl) x ou2 rfl (fun q hq => ap2.2 q hq) (by rw [bI_length]; omega) HKP.out).mono ?_
              rintro e wC ⟨bB, bd, rfl, _, hT5⟩
              clear hT4 ou2 ap2
              replace hT5 := hT5.swap
              go_wp2_with fail
              refine (hT5.close2 h00 (bI tl) [] rfl rfl).mono ?_
              rintro e wD ⟨uC, ud, rfl, ou3, _, hT6⟩
              have ap3 := hT5.fresh ou3
              clear hT5
              go_wp2_with fail
              refine (hT6.join2 _ uC _ ud (bI tl) x ou3 rfl (fun q hq => ap3.1 q hq) (by rw [bI_length]; omega) HKP.out).mono ?_
              rintro e wE ⟨aB, ad, rfl, _, hT7⟩
              clear hT6 ou3 ap3
              have rx := RB.out.below hT7.bl
              subst hx
              go_wp2_with fail
              refine (eqBytes_any aB B _ _ _ _ x x rfl rfl (by omega) wE (own_rdv hT7.ra) rx).mono ?_
              rintro e wF ⟨rfl, hbF⟩
              rw [decide_eq_true (rfl : x = x)]
              have hT8 := hT7.below hbF
              clear hT7 hbF rx
              have rx := RB.out.below hT8.bl
              go_wp2_with fail
              refine (eqBytes_any bB B _ _ _ _ x x rfl rfl (by omega) wF (own_rdv hT8.rb) rx).mono ?_
              rintro e wG ⟨rfl, hbG⟩
              rw [decide_eq_true (rfl : x = x)]
              have hT9 := hT8.below hbG
              clear hT8 hbG rx
              go_wp2_with fail
              refine hT9.swap.over.mono ?_
              rintro e wH ⟨rfl, rfl⟩
              have HB := Lib.hid hT9.bl
              clear hT9
              go_wp2
              go_returns
              exact ⟨rfl, HB.out⟩
end Go.Proofs.Ytcambbnmeiolgaa
