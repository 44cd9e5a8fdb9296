import Derived.Test.YtcambbnmeiolgaaWtsP
import Derived.Deep.QuietTactic
import Derived.BigQuiet
import Derived.Test.YtcambbnmeiolgaaDec
import Derived.Test.YtcambbnmeiolgaaOne
namespace Go.Proofs.Ytcambbnmeiolgaa
open Go.RowKit
/-! Stop strings: none stands in what comes out; where one ended the stream, it stands right behind -/
theorem u8_bI (l : List UInt8) : (bI l).map u8 = l := by
  unfold bI
  rw [List.map_map]
  conv => rhs; rw [← List.map_id l]
  refine List.map_congr_left (fun b _ => ?_)
  show u8 (b.toNat : Int) = b
  unfold u8
  simp
theorem bI_u8s {l : List Int} (h : ∀ x ∈ l, 0 ≤ x ∧ x < 256) : bI (l.map u8) = l := by
  induction l with
  | nil => rfl
  | cons x l ih =>
    have h1 := bI_u8 (h x (by simp))
    have h2 := ih (fun y hy => h y (List.mem_cons_of_mem _ hy))
    simp only [bI, List.map_cons, List.map_nil, List.cons.injEq] at h1 h2 ⊢
    exact ⟨h1.1, h2⟩
theorem sfx_snoc {x t : List UInt8} {b : UInt8} {k : Nat} (hk : k < x.length) (h : x.take (k + 1) <:+ t ++ [b]) : x.take k <:+ t := by
  rw [List.take_succ_eq_append_getElem hk] at h
  obtain ⟨p, hp⟩ := h
  rw [← List.append_assoc] at hp
  obtain ⟨h1, _⟩ := List.append_inj' hp rfl
  exact ⟨p, h1⟩
theorem inf_snoc {x t : List UInt8} {b : UInt8} (h : x <:+: t ++ [b]) : x <:+: t ∨ x <:+ t ++ [b] := by
  obtain ⟨p, q, hq⟩ := h
  rcases List.eq_nil_or_concat q with rfl | ⟨q', c, rfl⟩
  · exact .inr ⟨p, by simpa using hq⟩
  · left
    rw [List.concat_eq_append, ← List.append_assoc] at hq
    obtain ⟨h1, _⟩ := List.append_inj' hq rfl
    exact ⟨p, q', h1⟩
theorem hold1_ge {t s : List UInt8} {h k : Nat} (hs : sfx t (s.take k) = true) : ∀ K, k ≤ K → k ≤ hold1 t s h K := by
  intro K
  induction K with
  | zero => intro hk; omega
  | succ K ih =>
    intro hk
    simp only [hold1]
    split
    · omega
    · split
      · omega
      · rename_i h2
        rcases Nat.lt_or_ge k (K + 1) with h3 | h3
        · exact ih (by omega)
        · obtain rfl : k = K + 1 := by omega
          exact absurd hs h2
theorem holdF_ge (t : List UInt8) : ∀ (sts : List (List UInt8)) (h : Nat), h ≤ sts.foldl (fun h s => hold1 t s h (min (s.length - 1) t.length)) h := by
  intro sts
  induction sts with
  | nil => intro h; exact Nat.le_refl _
  | cons s r ih =>
    intro h
    rw [List.foldl_cons]
    exact Nat.le_trans (hold1_le t s h _).1 (ih _)
theorem holdL_ge {t s : List UInt8} {k : Nat} (hs : sfx t (s.take k) = true) (h1 : k ≤ s.length - 1) (h2 : k ≤ t.length) : ∀ (sts : List (List UInt8)) (h : Nat), s ∈ sts → k ≤ sts.foldl (fun h s => hold1 t s h (min (s.length - 1) t.length)) h := by
  intro sts
  induction sts with
  | nil => intro h hm; cases hm
  | cons x r ih =>
    intro h hm
    rw [List.foldl_cons]
    rcases List.mem_cons.1 hm with rfl | hm
    · exact Nat.le_trans (hold1_ge hs _ (by omega)) (holdF_ge t r _)
    · exact ih _ hm
theorem longF_ge (t : List UInt8) : ∀ (sts : List (List UInt8)) (g : Nat), g ≤ sts.foldl (fun g s => if sfx t s then max g s.length else g) g := by
  intro sts
  induction sts with
  | nil => intro g; exact Nat.le_refl _
  | cons s r ih =>
    intro g
    rw [List.foldl_cons]
    refine Nat.le_trans ?_ (ih _)
    split <;> omega
theorem longest_ge {t s : List UInt8} (hs : sfx t s = true) : ∀ (sts : List (List UInt8)) (g : Nat), s ∈ sts → s.length ≤ sts.foldl (fun g s => if sfx t s then max g s.length else g) g := by
  intro sts
  induction sts with
  | nil => intro g hm; cases hm
  | cons x r ih =>
    intro g hm
    rw [List.foldl_cons]
    rcases List.mem_cons.1 hm with rfl | hm
    · refine Nat.le_trans ?_ (longF_ge t r _)
      rw [if_pos hs]
      omega
    · exact ih _ hm
theorem longest_mem (t : List UInt8) : ∀ (sts : List (List UInt8)) (g : Nat), sts.foldl (fun g s => if sfx t s then max g s.length else g) g = g ∨ ∃ s ∈ sts, sfx t s = true ∧ s.length = sts.foldl (fun g s => if sfx t s then max g s.length else g) g := by
  intro sts
  induction sts with
  | nil => intro g; exact .inl rfl
  | cons x r ih =>
    intro g
    rw [List.foldl_cons]
    rcases ih (if sfx t x then max g x.length else g) with h | ⟨s, hm, h1, h2⟩
    · rw [h]
      split
      · rename_i hx
        rcases Nat.le_total g x.length with hl | hl
        · exact .inr ⟨x, by simp, hx, by omega⟩
        · left; omega
      · exact .inl rfl
    · exact .inr ⟨s, by simp [hm], h1, h2⟩
/-- what holds of a stream that has seen t -/
def StpI (sts : List (List UInt8)) (s : S3) (t : List UInt8) : Prop :=
  ∃ o, s.2.1 = bI o ∧
    (s.2.2 = false → o ++ s.1 = t ∧ (∀ x ∈ sts, ¬ x <:+: t) ∧ (∀ x ∈ sts, ∀ k, k ≤ x.length → x.take k <:+ t → k ≤ s.1.length)) ∧
    (s.2.2 = true → (∃ x ∈ sts, (o ++ x) <+: t) ∧ (∀ x ∈ sts, ¬ x <:+: o))
theorem stpI_zero {sts : List (List UInt8)} (h1 : ∀ x ∈ sts, 1 ≤ x.length) : StpI sts ([], [], false) [] := by
  refine ⟨[], rfl, fun _ => ⟨rfl, fun x hx h => ?_, fun x hx k hk h => ?_⟩, fun h => by cases h⟩
  · have e := h.length_le
    have e1 := h1 x hx
    rw [List.length_nil] at e
    omega
  · have e := h.length_le
    have e1 := h1 x hx
    rw [List.length_take, List.length_nil] at e
    dsimp only
    rw [List.length_nil]
    omega
theorem stpI_step {sts : List (List UInt8)} (h1 : ∀ x ∈ sts, 1 ≤ x.length) {s : S3} {t : List UInt8} (b : UInt8) (h : StpI sts s t) : StpI sts (stepU sts s b) (t ++ [b]) := by
  obtain ⟨o, ho, hF, hT⟩ := h
  cases h0 : s.2.2 with
  | true =>
    rw [stepU_over sts s b h0]
    obtain ⟨⟨x, hx, hp⟩, hn⟩ := hT h0
    exact ⟨o, ho, fun h => (by rw [h0] at h; cases h), fun _ => ⟨⟨x, hx, hp.trans (List.prefix_append _ _)⟩, hn⟩⟩
  | false =>
    obtain ⟨e, hno, hk⟩ := hF h0
    unfold stepU
    rw [if_neg (by rw [h0]; simp)]
    obtain ⟨tl, htl⟩ : ∃ tl, s.1 ++ [b] = tl := ⟨_, rfl⟩
    have e' : o ++ tl = t ++ [b] := by rw [← htl, ← List.append_assoc, e]
    have hlen : tl.length = s.1.length + 1 := by rw [← htl]; simp
    rw [htl]
    have hll := longest_le tl sts
    have hsub : ∀ {y : List UInt8} {m : Nat}, y <:+ t ++ [b] → y.length ≤ m → m ≤ tl.length → y <:+ tl := by
      intro y m hy h1 h2
      refine List.suffix_of_suffix_length_le hy ⟨o, e'⟩ (by omega)
    split
    · rename_i hg
      refine ⟨o ++ tl.take (tl.length - longest sts tl), by dsimp only; rw [ho, bI_append], fun h => (by cases h), fun _ => ?_⟩
      rcases longest_mem tl sts 0 with h | ⟨x, hx, hs, hxl⟩
      · exact absurd h (by unfold longest at hg; omega)
      · have hxl' : x.length = longest sts tl := hxl
        have hxe : x = tl.drop (tl.length - longest sts tl) := by
          have := List.suffix_iff_eq_drop.1 (sfx_iff.1 hs)
          rw [hxl'] at this
          exact this
        have hte : (o ++ tl.take (tl.length - longest sts tl)) ++ x = t ++ [b] := by
          rw [hxe, List.append_assoc, List.take_append_drop, e']
        refine ⟨⟨x, hx, by rw [hte]; exact List.prefix_refl _⟩, fun y hy hin => hno y hy ?_⟩
        refine List.IsInfix.trans hin ?_
        have hpre : (o ++ tl.take (tl.length - longest sts tl)) <+: t := by
          refine List.prefix_of_prefix_length_le (l₃ := t ++ [b]) ⟨x, hte⟩ (List.prefix_append _ _) ?_
          have := congrArg List.length hte
          rw [List.length_append, List.length_append (bs := [b])] at this
          have h3 := h1 x hx
          simp only [List.length_cons, List.length_nil] at this
          omega
        exact hpre.isInfix
    · rename_i hg
      have hnos : ∀ x ∈ sts, ¬ x <:+ t ++ [b] := by
        intro x hx hs
        have h2 := h1 x hx
        obtain ⟨m, hm⟩ : ∃ m, x.length = m + 1 := ⟨x.length - 1, by omega⟩
        have h3 : x.take m <:+ t := sfx_snoc (b := b) (by omega) (by rw [← hm, List.take_length]; exact hs)
        have h4 := hk x hx m (by omega) h3
        have h5 : sfx tl x = true := sfx_iff.2 (hsub hs (Nat.le_refl _) (by omega))
        have h6 := longest_ge h5 sts 0 hx
        unfold longest at hg
        omega
      have hw := waitsL_le sts tl
      refine ⟨o ++ tl.take (tl.length - waitsL sts tl), by dsimp only; rw [ho, bI_append], fun _ => ⟨?_, ?_, ?_⟩, fun h => (by cases h)⟩
      · dsimp only
        rw [List.append_assoc, List.take_append_drop, e']
      · intro x hx hin
        rcases inf_snoc hin with h | h
        · exact hno x hx h
        · exact hnos x hx h
      · intro x hx k hkx hs
        dsimp only
        rw [List.length_drop]
        rcases Nat.eq_zero_or_pos k with rfl | hpos
        · omega
        · rcases Nat.lt_or_ge k x.length with hlt | hge
          · obtain ⟨m, rfl⟩ : ∃ m, k = m + 1 := ⟨k - 1, by omega⟩
            have h4 := hk x hx m (by omega) (sfx_snoc (by omega) hs)
            have h5 : sfx tl (x.take (m + 1)) = true := sfx_iff.2 (hsub hs (by rw [List.length_take]; exact Nat.min_le_left _ _) (by omega))
            have h6 : m + 1 ≤ holdL sts tl := holdL_ge h5 (by omega) (by omega) sts 0 hx
            unfold waitsL at hw ⊢
            omega
          · exact absurd (by rwa [List.take_of_length_le hge] at hs) (hnos x hx)
theorem stpI_bytes {sts : List (List UInt8)} (h1 : ∀ x ∈ sts, 1 ≤ x.length) (l : List Int) : ∀ (s : S3) (t : List UInt8), StpI sts s t → StpI sts (bytesU sts s l) (t ++ l.map u8) := by
  induction l with
  | nil => intro s t h; simpa [bytesU] using h
  | cons x l ih =>
    intro s t h
    have := ih _ _ (stpI_step h1 (u8 x) h)
    rw [List.append_assoc] at this
    exact this
theorem stpI_feed {sts : List (List UInt8)} (h1 : ∀ x ∈ sts, 1 ≤ x.length) (wds : List (List Int)) (l : List Int) : ∀ (s : S3) (t : List UInt8), (∀ x ∈ l, 1 ≤ x) → StpI sts s t → StpI sts (feedU sts wds s l) (t ++ (cameU wds l).map u8) := by
  induction l with
  | nil => intro s t _ h; simpa [feedU, cameU] using h
  | cons k l ih =>
    intro s t hk h
    have hk1 := hk k (by simp)
    have et : tokU sts wds s k.toNat = bytesU sts s (wds.getD k.toNat []) := by unfold tokU; rw [if_neg (by omega)]
    have := ih (tokU sts wds s k.toNat) _ (fun y hy => hk y (List.mem_cons_of_mem _ hy)) (by rw [et]; exact stpI_bytes h1 (wds.getD k.toNat []) s t h)
    have e : cameU wds (k :: l) = wds.getD k.toNat [] ++ cameU wds l := by simp [cameU]
    rw [e, List.map_append, ← List.append_assoc]
    exact this
theorem came_byte {wds : List (List Int)} (hw : ∀ l ∈ wds, l.length ≤ 16 ∧ ∀ x ∈ l, 0 ≤ x ∧ x < 256) (l : List Int) : ∀ x ∈ cameU wds l, 0 ≤ x ∧ x < 256 := by
  intro x hx
  unfold cameU at hx
  obtain ⟨y, hy, hxy⟩ := List.mem_flatten.1 hx
  obtain ⟨k, _, rfl⟩ := List.mem_map.1 hy
  exact word_u8 hw _ x hxy
/-- what came out in all, of tokens none of which is the end -/
def allOut (sts : List (List UInt8)) (wds : List (List Int)) (l : List Int) : List Int := (feedU sts wds ([], [], false) l).2.1 ++ (if (feedU sts wds ([], [], false) l).2.2 then [] else bI (feedU sts wds ([], [], false) l).1)
theorem stops_open {sts : List (List UInt8)} (h1 : ∀ x ∈ sts, 1 ≤ x.length) {wds : List (List Int)} (hw : ∀ l ∈ wds, l.length ≤ 16 ∧ ∀ x ∈ l, 0 ≤ x ∧ x < 256) (l : List Int) (hl : ∀ x ∈ l, 1 ≤ x) (h : (feedU sts wds ([], [], false) l).2.2 = false) :
    allOut sts wds l = cameU wds l ∧ ∀ x ∈ sts, ¬ x <:+: (cameU wds l).map u8 := by
  obtain ⟨o, ho, hF, _⟩ := stpI_feed h1 wds l _ _ hl (stpI_zero h1)
  obtain ⟨e, hno, _⟩ := hF h
  unfold allOut
  rw [List.nil_append] at e hno
  refine ⟨?_, hno⟩
  rw [h, if_neg (by simp), ho, ← bI_append, e, bI_u8s (came_byte hw l)]
theorem stops_over {sts : List (List UInt8)} (h1 : ∀ x ∈ sts, 1 ≤ x.length) {wds : List (List Int)} (hw : ∀ l ∈ wds, l.length ≤ 16 ∧ ∀ x ∈ l, 0 ≤ x ∧ x < 256) (l : List Int) (hl : ∀ x ∈ l, 1 ≤ x) (h : (feedU sts wds ([], [], false) l).2.2 = true) :
    (∃ x ∈ sts, allOut sts wds l ++ bI x <+: cameU wds l) ∧ ∀ x ∈ sts, ¬ x <:+: (allOut sts wds l).map u8 := by
  obtain ⟨o, ho, _, hT⟩ := stpI_feed h1 wds l _ _ hl (stpI_zero h1)
  obtain ⟨⟨x, hx, hp⟩, hno⟩ := hT h
  have e : allOut sts wds l = bI o := by unfold allOut; rw [h, if_pos rfl, ho, List.append_nil]
  rw [List.nil_append] at hp
  refine ⟨⟨x, hx, ?_⟩, fun y hy => ?_⟩
  · rw [e, ← bI_append, ← bI_u8s (came_byte hw l)]
    obtain ⟨q, hq⟩ := hp
    exact ⟨bI q, by rw [← bI_append, hq]⟩
  · rw [e, u8_bI]; exact hno y hy
end Go.Proofs.Ytcambbnmeiolgaa
namespace Go.Proofs.Ytcambbnmeiolgaa
open Go.RowKit
def toU (l : List Int) : List UInt8 := l.map u8
theorem toU_length (l : List Int) : (toU l).length = l.length := List.length_map _
/-- does one of the texts stand in the bytes? -/
def hasL (bs : List Int) (sts : List (List UInt8)) : Bool := sts.any fun s => decide (s <:+: toU bs)
theorem hasL_true {bs : List Int} {sts : List (List UInt8)} {s : List UInt8} (h : s ∈ sts) (hi : s <:+: toU bs) : hasL bs sts = true := by
  unfold hasL
  rw [List.any_eq_true]
  exact ⟨s, h, decide_eq_true hi⟩
theorem hasL_false {bs : List Int} {sts : List (List UInt8)} (h : ∀ s ∈ sts, ¬ s <:+: toU bs) : hasL bs sts = false := by
  unfold hasL
  rw [List.any_eq_false]
  intro s hs
  rw [decide_eq_false (h s hs)]
  decide
theorem inf_at {s L : List UInt8} {j : Nat} (h : (L.drop j).take s.length = s) : s <:+: L := by
  refine ⟨L.take j, (L.drop j).drop s.length, ?_⟩
  have h1 := List.take_append_drop s.length (L.drop j)
  rw [h] at h1
  rw [List.append_assoc, h1, List.take_append_drop]
theorem inf_none {s L : List UInt8} (h : ∀ j, j + s.length ≤ L.length → (L.drop j).take s.length ≠ s) : ¬ s <:+: L := by
  rintro ⟨p, q, hq⟩
  refine h p.length (by rw [← hq, List.length_append, List.length_append]; omega) ?_
  rw [← hq, List.append_assoc, List.drop_left, List.take_left]
theorem rd_cut {w : World} {b o : Nat} {l : List Int} (h : Rd w (some ⟨b, o, none⟩) (B8 l)) (a n : Nat) (hle : a + n ≤ l.length) : Rd w (some ⟨b, o + a, none⟩) (B8 ((l.drop a).take n)) := by
  rcases h with h | ⟨b', o', e, h⟩
  · refine .inl ?_
    have : l = [] := by simpa [B8] using h
    subst this
    simp [B8]
  · injection e with e
    injection e with e1 e2
    subst e1 e2
    refine .inr ⟨b, o + a, rfl, fun i hi => ?_⟩
    have hi2 : i < n := by simp [B8] at hi; omega
    have := h (a + i) (by simp [B8]; omega)
    rw [show o + a + i = o + (a + i) by omega, this]
    simp [B8, hi2]
theorem str_ne {a b : ByteArray} (h : ¬ a = b) : (a.toList == b.toList) = false := by
  rw [beq_eq_false_iff_ne, ByteArray.toList_eq, ByteArray.toList_eq]
  intro he
  exact h (by rw [← mk_lst a, ← mk_lst b]; show (⟨(lst a).toArray⟩ : ByteArray) = ⟨(lst b).toArray⟩; rw [show lst a = lst b from he])
theorem cut_u8 (l : List Int) (a n : Nat) : toU ((l.drop a).take n) = ((toU l).drop a).take n := by unfold toU; rw [List.map_take, List.map_drop]

set_option maxRecDepth 100000 in
set_option maxHeartbeats 2000000 in
/-- has -/
theorem has_any (B S : Option Addr) (bn bc sn sc : Nat) (bs : List Int) (strs : List ByteArray) (w : World) (hb : bs.length = bn) (hbc : bn ≤ bc) (rB : Rd w B (B8 bs)) (hbn : bn ≤ 1099511627776) (hS : strs.length = sn) (rS : Rd w S (strs.map Value.string)) (hsn : sn ≤ 140737488355328) (h16 : ∀ s ∈ strs, 1 ≤ s.size ∧ s.size ≤ 16) :
    Calls Try.prog 27 #[.slice B bn bc, .slice S sn sc] w fun e w' => e = .returned (.bool (hasL bs (strs.map lst))) ∧ Below w.heap.size w w' := by
  have RB := Lib.hid rB
  have RS := Lib.hid rS
  clear rB rS
  go_enter Try.func27, Try.ntmps27
  go_wp2
  go_loopw [5, 6] (fun i _ wr => ∃ a : Nat, a ≤ sn ∧ i = .int .i64 (a : Int) ∧ (∀ s ∈ (strs.map lst).take a, ¬ s <:+: toU bs) ∧ Below w.heap.size w wr) (fun i _ _ => sn - (intOf i).toNat)
  case atStart => exact ⟨0, by omega, rfl, by simp, Below.refl _ _⟩
  case round =>
    obtain ⟨a, ha, rfl, hno, hbl⟩ := hrel
    have NO := Lib.hid hno
    clear hno
    by_cases hlt : a < sn
    · have g1 : (a : Int) < (sn : Int) := by omega
      obtain ⟨hst1, hst⟩ := h16 strs[a] (List.getElem_mem _)
      have ME := Lib.hid (show lst strs[a] ∈ strs.map lst from List.mem_map.2 ⟨_, List.getElem_mem _, rfl⟩)
      have TK := Lib.hid (show (strs.map lst).take (a + 1) = (strs.map lst).take a ++ [lst strs[a]] by rw [List.take_succ_eq_append_getElem (by rw [List.length_map]; omega), List.getElem_map])
      have AT := Lib.hid (fun (w' : World) (h : Below w.heap.size w w') => (RS.out.below h).at a (by rw [List.length_map]; omega))
      have E := Lib.hid (List.getElem_map lst (l := strs) (i := a) (h := by rw [List.length_map]; omega))
      have CE := Lib.hid (show (strs.map Value.string)[a]'(by rw [List.length_map]; omega) = .string strs[a] by rw [List.getElem_map])
      generalize strs[a] = st at *
      go_wp2
      go_loopw [6] (fun k wr => ∃ j : Nat, j ≤ bn + 1 ∧ k = .int .i64 (j : Int) ∧ (∀ j' < j, ((toU bs).drop j').take st.size ≠ lst st) ∧ Below w.heap.size w wr) (fun k _ => bn + 1 - (intOf k).toNat)
      case atStart => exact ⟨0, by omega, rfl, fun j' h => by omega, hbl⟩
      case round =>
        clear hbl
        obtain ⟨j, hj, rfl, hne, hbl⟩ := hrel
        have NE := Lib.hid hne
        clear hne
        obtain ⟨sb, so, rfl, y0⟩ := AT.out _ hbl
        rw [CE.out] at y0
        have ea := addr_add sb so a
        by_cases hle : j + st.size ≤ bn
        · have g2 : (j : Int) + (st.size : Int) ≤ (bn : Int) := by omega
          obtain ⟨bb, bo, rfl⟩ : ∃ bb bo, B = some ⟨bb, bo, none⟩ := by
            rcases RB.out with h | ⟨b', o', e, _⟩
            · have : bs = [] := by simpa [B8] using h
              subst this
              simp at hb
              omega
            · exact ⟨b', o', e⟩
          obtain ⟨str, hstr⟩ : ∃ str : ByteArray, str = ⟨(toU ((bs.drop j).take st.size)).toArray⟩ := ⟨_, rfl⟩
          have hl : lst str = ((toU bs).drop j).take st.size := by rw [hstr, ← cut_u8]
          have hcv : ∀ c q, (convert 34 9 (.slice (some ⟨bb, bo + j, none⟩) st.size c)).run Try.prog (wr.drewN q) = .ok (.string str) (wr.drewN q) := by
            intro c q
            rw [hstr]
            exact conv_run _ _ _ _ _ (by rw [List.length_take, List.length_drop]; omega) (rd_cut (RB.out.below (bdraw hbl q)) j st.size (by omega))
          have ea2 := addr_add bb bo j
          have g3 : (j : Int) + (st.size : Int) ≤ (bc : Int) := by omega
          have g4 : (j : Int) ≤ (j : Int) + (st.size : Int) := by omega
          have g5 : j + st.size ≤ bc := by omega
          clear hstr
          by_cases hq : str = st
          · subst hq
            have HT := Lib.hid (show hasL bs (strs.map lst) = true from hasL_true ME.out (inf_at (j := j) (by rw [lst_length]; exact hl.symm)))
            clear hl
            go_wp2
            go_quiet (fail)
            all_goals go_wp2
            go_returns
            exact ⟨by rw [HT.out]; rfl, bdraw hbl _⟩
          · have hq2 : (str.toList == st.toList) = false := str_ne hq
            have HL := Lib.hid hl
            clear hl
            go_wp2
            go_quiet (fail)
            all_goals go_wp2
            go_roundw
            case rel =>
              refine ⟨j + 1, by omega, by go_num, ?_, bdraw hbl _⟩
              intro j' hj'
              rcases Nat.lt_or_ge j' j with h | h
              · exact NE.out j' h
              · obtain rfl : j' = j := by omega
                intro he
                rw [← HL.out] at he
                exact hq (by rw [← mk_lst str, he, mk_lst])
            case measure => simp [intOf]; omega
        · have g2 : ¬ (j : Int) + (st.size : Int) ≤ (bn : Int) := by omega
          have g3 : (bn : Int) < (j : Int) + (st.size : Int) := by omega
          go_wp2
          go_roundw
          case rel =>
            refine ⟨a + 1, by omega, by go_num, ?_, hbl⟩
            intro s hs
            rw [TK.out] at hs
            rcases List.mem_append.1 hs with h | h
            · exact NO.out s h
            · rw [List.mem_singleton.1 h]
              refine inf_none (fun j' hj' => ?_)
              rw [lst_length] at hj' ⊢
              rw [toU_length, hb] at hj'
              exact NE.out j' (by omega)
          case measure => simp [intOf]; omega
    · obtain rfl : a = sn := by omega
      have HF := Lib.hid (show hasL bs (strs.map lst) = false from hasL_false (by have := NO.out; rwa [List.take_of_length_le (by rw [List.length_map]; omega)] at this))
      go_wp2
      go_returns
      exact ⟨by rw [HF.out]; rfl, hbl⟩
end Go.Proofs.Ytcambbnmeiolgaa
namespace Go.Proofs.Ytcambbnmeiolgaa
open Go.RowKit
set_option maxRecDepth 100000 in
set_option maxHeartbeats 2000000 in
/-- bpe.Decode -/
theorem decode_wide (A A' T : Option Addr) (n m t c c' ct : Nat) (bs : List Int) (ps : List (Int × Int)) (l : List Int) (w : World) (hv : Voc w A A' n m bs ps) (hwf : Wf bs ps) (hl : l.length = t) (ht : Rd w T (I64 l)) (hs : t ≤ 2147483648) :
    Calls Try.prog 25 #[.agg #[.slice A n c, .slice A' m c'], .slice T t ct] w fun e w' => ∃ v, e = .returned (.tuple #[v, .int .i64 (errD bs ps l)]) ∧ w'.ownsRow w.heap.size 5 1 v (bytD bs ps l).length (B8 (bytD bs ps l)) ∧ Below w.heap.size w w' := by
  have h0 : Below w.heap.size w (w.alloc (.cells #[.slice A n c, .slice A' m c'] 37)) := by go_grown
  have eN := eN55
  go_enter Try.func25, Try.ntmps25
  go_wp2_with fail
  refine (pieces_any A A' n m c c' bs ps _ (hv.below h0) hwf).mono ?_
  rintro e w1 ⟨hb, hp⟩
  replace hb := bthen h0 hb
  cases hq : vocF bs ps with
  | none =>
    have he : errD bs ps l = 50 := by unfold errD; rw [hq]
    have hy : bytD bs ps l = [] := by unfold bytD; rw [hq]
    rw [hq] at hp
    have HR := Lib.hid he
    have HY := Lib.hid hy
    clear he hq hy
    subst hp
    go_wp2
    go_returns
    refine ⟨.slice none 0 0, by rw [HR.out]; rfl, ?_, hb⟩
    rw [HY.out]
    exact World.ownsRow_nil _ _ _ _
  | some ls =>
    have hT := toks_of hq
    have h1 := hT.len
    have h2 := hT.n64
    obtain ⟨hlb, hnn⟩ : ls.length ≤ 64 ∧ 0 < ls.length := by omega
    have he : errD bs ps l = if l.all (okTok ls.length) then 0 else 52 := by unfold errD; rw [hq]
    have hy : bytD bs ps l = if l.all (okTok ls.length) then flat ls l else [] := by unfold bytD; rw [hq]
    rw [hq] at hp
    obtain ⟨g, cap, vals, rfl, ho, hp⟩ := hp
    clear hq h1 h2
    have HR := Lib.hid he
    have HY := Lib.hid hy
    clear he hy
    replace ht := ht.below hb
    have hfz : ∀ (i : Nat) (v : Value), vals[i]? = some v → ∀ j, v.ownBlock = some j → j < w1.heap.size := fun i v hv j hj => (hp.lt i v hv j hj).2
    go_wp2
    go_loopw [7, 16] (fun ov i wr => ∃ k : Nat, k ≤ t ∧ i = .int .i64 (k : Int) ∧ (l.take k).all (okTok ls.length) = true ∧ wr.ownsRow w1.heap.size 5 1 ov (flat ls (l.take k)).length (B8 (flat ls (l.take k))) ∧ Below w1.heap.size w1 wr) (fun _ i _ => t - (intOf i).toNat)
    case atStart => exact ⟨0, by omega, rfl, rfl, World.ownsRow_nil _ _ _ _, Below.refl _ _⟩
    case round =>
      obtain ⟨k, hk, rfl, hall, oo, hb2⟩ := hrel
      obtain ⟨Ao, co, rfl, _, _⟩ := own_rd oo
      have AL := Lib.hid hall
      clear hall
      by_cases hlt : k < t
      · obtain ⟨b, o, rfl, y1⟩ := (ht.below hb2).i64 k (by omega)
        have ea := addr_add b o k
        have TK := Lib.hid (List.take_succ_eq_append_getElem (show k < l.length by omega))
        have hmem : l[k]'(by omega) ∈ l := List.getElem_mem _
        generalize l[k]'(by omega) = x at *
        by_cases hbad : x < 0 ∨ (ls.length : Int) ≤ x
        · have hr : ¬ (l.all (okTok ls.length) = true) := by
            intro h
            have := List.all_eq_true.1 h x hmem
            simp [okTok] at this
            omega
          have NR := Lib.hid hr
          clear hr hmem
          by_cases z : x < 0
          · clear hbad
            go_wp2
            go_returns
            refine ⟨.slice none 0 0, by rw [HR.out, if_neg NR.out]; rfl, ?_, bthen hb hb2⟩
            rw [HY.out, if_neg NR.out]
            exact World.ownsRow_nil _ _ _ _
          · have z2 : (ls.length : Int) ≤ x := by omega
            clear hbad
            go_wp2
            go_returns
            refine ⟨.slice none 0 0, by rw [HR.out, if_neg NR.out]; rfl, ?_, bthen hb hb2⟩
            rw [HY.out, if_neg NR.out]
            exact World.ownsRow_nil _ _ _ _
        · clear hmem
          obtain ⟨q, rfl⟩ : ∃ q : Nat, x = (q : Int) := ⟨x.toNat, by omega⟩
          have hq : q < ls.length := by omega
          have hx : okTok ls.length (q : Int) = true := by simp [okTok]; omega
          have HX := Lib.hid hx
          clear hbad hx
          obtain ⟨v, hv1, ov⟩ := hp.get q hq
          have c3 := own_cell (own_below ho hb2) q _ hv1
          have ea2 : (⟨g, 0, none⟩ : Addr).add q = ⟨g, q, none⟩ := by simpa using addr_add g 0 q
          have ov' : wr.ownsRow w.heap.size 5 1 v (tok ls q).length (B8 (tok ls q)) := own_base (own_below ov hb2) (by simp)
          obtain ⟨va, vc, rfl, _, _⟩ := own_rd ov'
          have hsz : (tok ls q).length ≤ 16 := hT.small q
          have hfl := flat_small hT (l.take k)
          have hfl2 : (l.take k).length ≤ t := by simp; omega
          have FS := Lib.hid (flat_snoc ls (l.take k) (q : Int))
          clear ov
          go_wp2_with (at_builtin; refine appRow (w0 := w1) w1.heap.size rfl _ _ 34 5 (.int .u8 0) 1 rfl Try.underlying34 info5 rfl (by decide) (.slice Ao (flat ls (l.take k)).length co) (flat ls (l.take k)).length (B8 (flat ls (l.take k))) va (tok ls q).length vc (B8 (tok ls q)) rfl rfl (B8_length _) (B8_one _) (own_rdA ov') oo hb2 hb2.size (by omega) ?_; intro v1 w4 o1 hb5 hg5 hat5)
          go_roundw
          case rel =>
            refine ⟨k + 1, by omega, by go_num, ?_, ?_, hb5⟩
            · rw [TK.out, List.all_append, AL.out]
              simpa using HX.out
            · rw [TK.out, FS.out, List.length_append, B8_append]
              simpa using o1
          case measure => simp [intOf]; omega
      · obtain rfl : t = k := by omega
        have hr : l.all (okTok ls.length) = true := by
          have := AL.out
          rwa [List.take_of_length_le (by omega)] at this
        have hfe : flat ls (l.take t) = flat ls l := by rw [List.take_of_length_le (by omega)]
        generalize flat ls (l.take t) = F at *
        have FE := Lib.hid hfe
        have NR := Lib.hid hr
        clear hr hfe
        go_wp2
        go_returns
        refine ⟨_, by rw [HR.out, if_pos NR.out]; rfl, ?_, bthen hb hb2⟩
        rw [HY.out, if_pos NR.out, ← FE.out]
        exact own_base oo hb.size
/-- of right tokens -/
theorem dec_ok {bs : List Int} {ps : List (Int × Int)} {l : List Int} (h : okTs (toks bs ps).length l) (h2 : 2 ≤ (toks bs ps).length) : errD bs ps l = 0 ∧ bytD bs ps l = cameU (toks bs ps) l := by
  unfold toks at h h2 ⊢
  unfold errD bytD
  cases hq : vocF bs ps with
  | none => rw [hq] at h2; simp at h2
  | some ls =>
    rw [hq] at h
    have hall : l.all (okTok ls.length) = true := by
      rw [List.all_eq_true]
      intro x hx
      unfold okTok
      exact decide_eq_true (h x hx)
    dsimp only
    rw [if_pos hall, if_pos hall]
    refine ⟨rfl, ?_⟩
    unfold flat cameU
    rw [List.flatMap_def]
    rfl
end Go.Proofs.Ytcambbnmeiolgaa
namespace Go.Proofs.Ytcambbnmeiolgaa
open Go.RowKit
theorem rgt_pos' (n : Nat) (l : List Int) : ∀ x ∈ rgt n l false, 1 ≤ x := by
  intro x hx
  unfold rgt at hx
  split at hx
  · obtain ⟨y, _, rfl⟩ := List.mem_map.1 hx
    exact (rgt1_ok (by assumption) false y).2.2 rfl
  · cases hx
theorem came_len {wds : List (List Int)} (hw : ∀ l ∈ wds, l.length ≤ 16 ∧ ∀ x ∈ l, 0 ≤ x ∧ x < 256) (l : List Int) : (cameU wds l).length ≤ 16 * l.length := by
  induction l with
  | nil => simp [cameU]
  | cons k l ih =>
    have e : cameU wds (k :: l) = wds.getD k.toNat [] ++ cameU wds l := by simp [cameU]
    rw [e, List.length_append, List.length_cons]
    have : (wds.getD k.toNat []).length ≤ 16 := by
      rw [List.getD_eq_getElem?_getD]
      rcases Nat.lt_or_ge k.toNat wds.length with h | h
      · rw [List.getElem?_eq_getElem h]; exact (hw _ (List.getElem_mem h)).1
      · rw [List.getElem?_eq_none h]; simp
    omega
/-- what stands of the stop strings in the end -/
def StopsEnd (sts : List (List UInt8)) (came out : List Int) (over : Bool) : Prop :=
  out <+: came ∧ (∀ x ∈ sts, ¬ x <:+: out.map u8) ∧ (over = false → out = came) ∧ (over = true → ∃ x ∈ sts, out ++ bI x <+: came)
theorem stopsEnd {sts : List (List UInt8)} (h1 : ∀ x ∈ sts, 1 ≤ x.length) {wds : List (List Int)} (hw : ∀ l ∈ wds, l.length ≤ 16 ∧ ∀ x ∈ l, 0 ≤ x ∧ x < 256) (l : List Int) (hl : ∀ x ∈ l, 1 ≤ x) : StopsEnd sts (cameU wds l) (allOut sts wds l) (feedU sts wds ([], [], false) l).2.2 := by
  cases h : (feedU sts wds ([], [], false) l).2.2 with
  | false =>
    obtain ⟨e, hno⟩ := stops_open h1 hw l hl h
    exact ⟨by rw [e]; exact List.prefix_refl _, by rw [e]; exact hno, fun _ => e, fun h => by cases h⟩
  | true =>
    obtain ⟨⟨x, hx, hp⟩, hno⟩ := stops_over h1 hw l hl h
    exact ⟨(List.prefix_append _ _).trans hp, hno, fun h => (by cases h), fun _ => ⟨x, hx, hp⟩⟩

set_option maxRecDepth 100000 in
set_option maxHeartbeats 16000000 in
/-- TextStops -/
theorem stops_law (A A' S L : Option Addr) (n m sn ln c c' sc lc : Nat) (bs : List Int) (ps : List (Int × Int)) (strs : List ByteArray) (l : List Int) (w : World) (hv : Voc w A A' n m bs ps) (hwf : Wf bs ps) (hS : strs.length = sn) (rS : Rd w S (strs.map Value.string)) (hsn : sn ≤ 140737488355328) (hl : l.length = ln) (rl : Rd w L (I64 l)) :
    Calls Try.prog 8 #[.agg #[.slice A n c, .slice A' m c'], .slice S sn sc, .slice L ln lc] w fun e w' => e = .returned (.bool true) ∧ Below w.heap.size w w' := by
  have h0 : Below w.heap.size w (w.alloc (.cells #[.slice A n c, .slice A' m c'] 37)) := by go_grown
  have q0 := Blk.new w #[.slice A n c, .slice A' m c'] 37
  have RS := Lib.hid rS
  go_enter Try.func8, Try.ntmps8
  go_wp2_with fail
  refine (long_any _ _).mono ?_
  rintro e w1 ⟨rfl, rfl⟩
  by_cases g1 : (2147483647 : Int) < ln
  · go_wp2
    go_returns
    exact ⟨rfl, h0⟩
  · go_wp2_with fail
    refine (fixed_any _).mono ?_
    rintro e w2 ⟨rfl, hb⟩
    replace q0 := q0.below hb
    replace hb := bthen h0 hb
    have hl2 := q0.lt
    have y0 : w2.cell? ⟨w.heap.size, 0, none⟩ = some (.slice A n c) := q0.cell _
    have y1 : w2.cell? ⟨w.heap.size, 1, none⟩ = some (.slice A' m c') := q0.cell _
    go_wp2_with fail
    refine (new_any A A' S n m sn c c' sc bs ps strs w2 (hv.below hb) hwf hS (rS.below hb) hsn).mono ?_
    rintro e w3 ⟨hb3, (⟨hne, rfl⟩ | ⟨he0, p, hp, rfl, hs⟩)⟩
    · have HB := Lib.hid (bthen hb hb3)
      generalize newE bs ps strs = k0 at *
      have hd : (k0 != 0) = true := by simpa using hne
      clear hb hb3 q0 y0 y1
      go_wp2
      go_returns
      exact ⟨rfl, HB.out⟩
    · replace q0 := q0.below hb3
      replace hb := bthen hb hb3
      have htk := newE_some he0
      have hwp : w.heap.size < p := by omega
      clear hb3 y0 y1 he0 hp hl2 h0
      have y0 : w3.cell? ⟨w.heap.size, 0, none⟩ = some (.slice A n c) := q0.cell _
      have y1 : w3.cell? ⟨w.heap.size, 1, none⟩ = some (.slice A' m c') := q0.cell _
      go_wp2_with fail
      refine (right_any A A' L n m ln c c' lc bs ps l false w3 (hv.below hb) hwf hl (rl.below hb) (by omega)).mono ?_
      rintro e w6 ⟨u, rfl, ou, hb6⟩
      have hpl := hs.lt
      replace hs := hs.below hb6
      replace q0 := q0.below hb6
      replace hb := bthen hb hb6
      obtain ⟨uA, uc, rfl, hcap, _⟩ := own_rd ou
      have hrl := rgt_len (toks bs ps).length l false
      have hok := rgt_ok (toks bs ps).length l false
      have RP := Lib.hid (rgt_pos' (toks bs ps).length l)
      obtain ⟨v1, hT0⟩ := one_new hb hs (by omega)
      have HV := Lib.hid hv
      clear y0 y1 hb6 hs hb rl hv rS
      generalize rgt (toks bs ps).length l false = all at *
      obtain ⟨hE, hD⟩ := dec_ok hok htk
      obtain ⟨wds, hwds⟩ : ∃ wds, toks bs ps = wds := ⟨_, rfl⟩
      rw [hwds] at hT0 htk hok hD
      clear hwds
      have hcl := came_len hT0.st1.w16 all
      have SE := Lib.hid (stopsEnd (fun x hx => by obtain ⟨s, hs, rfl⟩ := List.mem_map.1 hx; rw [lst_length]; exact (hT0.st1.s16 s hs).1) hT0.st1.w16 all RP.out : StopsEnd (strs.map lst) _ _ _)
      have S16 := Lib.hid hT0.st1.s16
      have hS4 := hT0.st1.s4
      have hfl := (feedU_len (strs.map lst) wds hT0.st1.lens (fun x hx => (hT0.st1.w16 x hx).1) all ([], [], false) (by simp)).1
      have hfo := (feedU_len (strs.map lst) wds hT0.st1.lens (fun x hx => (hT0.st1.w16 x hx).1) all ([], [], false) (by simp)).2
      have y0 : w6.cell? ⟨w.heap.size, 0, none⟩ = some (.slice A n c) := q0.cell _
      have y1 : w6.cell? ⟨w.heap.size, 1, none⟩ = some (.slice A' m c') := q0.cell _
      go_wp2_with fail
      refine (decode_wide A A' uA n m all.length c c' uc bs ps all w6 (HV.out.below hT0.bl) hwf rfl (own_rdv ou) (by omega)).mono ?_
      rintro e w7 ⟨v7, rfl, ou7, hb7⟩
      rw [hE]
      rw [hD] at ou7
      obtain ⟨bA, bc, rfl, hbc, _⟩ := own_rd ou7
      have hb7' : Below w6.heap.size w6 w7 := ⟨hb7.os, hb7.tape, hb7.output, hb7.size, hb7.block⟩
      have ou' := own_below ou hb7'
      clear q0 y0 y1 hE hD hb7
      unfold allOut at SE
      generalize cameU wds all = came at *
      obtain ⟨Sx, hSx⟩ : ∃ Sx, feedU (strs.map lst) wds ([], [], false) all = Sx := ⟨_, rfl⟩
      rw [hSx] at SE hfl hfo
      have hT7 : OneS w w6 p v1 wds strs w7 (.slice bA came.length bc) (.slice none 0 0) came [] ([], false) := by
        have h := hT0.below hb7'
        exact { h with ra := ou7, ap := by (rcases hq : (Value.slice bA came.length bc).ownBlock with _ | q); exact .inl rfl; exact .inr (by simp [Value.ownBlock]) }
      have SX := Lib.hid hSx
      clear hT0 hSx hb7' ou7 ou
      have hF := hT7.feed uA _ uc all rfl (by omega) (own_rdv ou') (fun b o h _ => by subst h; have := (own_lt ou' b rfl).1; omega) hok
      dsimp only at hF
      rw [SX.out] at hF
      clear SX
      go_wp2_with fail
      refine hF.mono ?_
      clear hF
      rintro e w8 ⟨u8', rfl, ou8, _, hT8⟩
      obtain ⟨sx, hsx⟩ : ∃ sx, Sx.2.2 = sx := ⟨_, rfl⟩
      obtain ⟨o1, ho1⟩ : ∃ o1, Sx.2.1 = o1 := ⟨_, rfl⟩
      obtain ⟨t1, ht1⟩ : ∃ t1, Sx.1 = t1 := ⟨_, rfl⟩
      rw [hsx, ho1, ht1] at SE
      rw [hsx, ht1] at hT8
      rw [ho1] at ou8 hfo
      rw [ht1] at hfl hfo
      clear hsx ho1 ht1 hT7 ou'
      obtain ⟨uG, ug, rfl, _, _⟩ := own_rd ou8
      obtain ⟨o2, ho2⟩ : ∃ o2, (if sx then [] else bI t1) = o2 := ⟨_, rfl⟩
      obtain ⟨t2, ht2⟩ : ∃ t2, (if sx then t1 else []) = t2 := ⟨_, rfl⟩
      rw [ho2] at SE
      have ho2l : o2.length ≤ 18 := by rw [← ho2]; split; simp; rw [bI_length]; exact hfl
      simp only [List.length_nil] at hfo
      go_wp2_with fail
      refine hT8.over.mono ?_
      rintro e w8' ⟨rfl, rfl⟩
      go_wp2_with fail
      refine (copyBytes_any uG _ ug o1 rfl (by omega) w8 (own_rdv ou8)).mono ?_
      rintro e w9 ⟨v9, rfl, ou9, hb9⟩
      obtain ⟨vA, vc, rfl, _, _⟩ := own_rd ou9
      have hT9 : OneS w w6 p v1 wds strs w9 (.slice bA came.length bc) (.slice vA o1.length vc) came o1 (t1, sx) := by
        have h := hT8.below hb9
        refine { h with rb := own_base ou9 hT8.sz, ap := ?_ }
        rcases hq : (Value.slice bA came.length bc).ownBlock with _ | q
        · exact .inl rfl
        · exact .inr (fun he => by have := (own_lt hT8.ra q hq).2; have := (own_lt ou9 q he.symm).1; omega)
      clear hT8 ou8 ou9 hb9
      go_wp2_with fail
      refine (hT9.close' (by omega) o2 t2 ho2 ht2).mono ?_
      rintro e wA ⟨u3, rfl, ou3, ap3, hTA⟩
      obtain ⟨uX, ux, rfl, _, _⟩ := own_rd ou3
      clear hT9 ho2 ht2
      go_wp2_with fail
      refine (hTA.swap.join uX _ ux _ ou3 rfl (fun q hq => (ap3 q hq).2) (by omega)).mono ?_
      rintro e wB ⟨bv2, rfl, hTB⟩
      obtain ⟨out, hout⟩ : ∃ out, o1 ++ o2 = out := ⟨_, rfl⟩
      rw [hout] at hTB SE
      clear hTA ou3 ap3 hout hfo
      obtain ⟨oA, oc, rfl, hoc, _⟩ := own_rd hTB.ra
      obtain ⟨rest, hrest⟩ := SE.1
      have hle := SE.1.length_le
      have hro : Rd wB oA (B8 out) := own_rdv hTB.ra
      have hrc : Rd wB bA (B8 came) := own_rdv hTB.rb
      have hpre : Rd wB bA (B8 out) := by
        have h := hrc
        rw [← hrest, show B8 (out ++ rest) = B8 out ++ B8 rest by simp [B8]] at h
        exact h.left
      have HB := Lib.hid hTB.bl
      clear hTB hrest
      have g6 : ¬ (came.length : Int) < (out.length : Int) := by omega
      have g7 : out.length ≤ bc := by omega
      have g8 : (out.length : Int) ≤ (came.length : Int) := by omega
      go_wp2_with fail
      refine (eqBytes_any oA bA _ _ _ _ out out rfl rfl (by omega) wB hro hpre).mono ?_
      rintro e wC ⟨rfl, hbC⟩
      rw [decide_eq_true (rfl : out = out)]
      go_wp2_with fail
      refine (has_any oA S out.length oc sn sc out strs wC rfl hoc (hro.below hbC) (by omega) hS (RS.out.below (bthen HB.out hbC)) hsn S16.out).mono ?_
      rintro e wD ⟨rfl, hbD⟩
      rw [hasL_false SE.2.1]
      replace hbD := bthen hbC hbD
      clear hbC hpre
      cases sx with
      | false =>
        obtain rfl : out = came := SE.2.2.1 rfl
        have SN := Lib.hid (hasL_false SE.2.1)
        clear SE
        go_wp2_with fail
        refine (has_any bA S out.length bc sn sc out strs wD rfl hbc (hrc.below hbD) (by omega) hS (RS.out.below (bthen HB.out hbD)) hsn S16.out).mono ?_
        rintro e wE ⟨rfl, hbE⟩
        rw [SN.out]
        have HB2 := Lib.hid (bthen HB.out (bthen hbD hbE))
        clear hbD hbE
        go_wp2
        go_returns
        exact ⟨rfl, HB2.out⟩
      | true =>
        have SY := Lib.hid (SE.2.2.2 rfl)
        have HB2 := Lib.hid (bthen HB.out hbD)
        have RC := Lib.hid (hrc.below hbD)
        clear SE hbD hrc hro HB
        go_wp2
        go_loopw [18, 19] (fun i _ wr => ∃ a : Nat, a ≤ sn ∧ i = .int .i64 (a : Int) ∧ (∀ x ∈ (strs.map lst).take a, ¬ out ++ bI x <+: came) ∧ Below wD.heap.size wD wr) (fun i _ _ => sn - (intOf i).toNat)
        case atStart => exact ⟨0, by omega, rfl, by simp, Below.refl _ _⟩
        case round =>
          obtain ⟨a, ha, rfl, hno, hbl⟩ := hrel
          have NO := Lib.hid hno
          clear hno
          by_cases hlt : a < sn
          · have g9 : (a : Int) < (sn : Int) := by omega
            have hst := S16.out strs[a] (List.getElem_mem _)
            obtain ⟨hst1, hst⟩ := hst
            have TK := Lib.hid (show (strs.map lst).take (a + 1) = (strs.map lst).take a ++ [lst strs[a]] by rw [List.take_succ_eq_append_getElem (by rw [List.length_map]; omega), List.getElem_map])
            obtain ⟨sb, so, hSb, y0⟩ := (RS.out.below (bthen HB2.out hbl)).at a (by rw [List.length_map]; omega)
            have CE : (strs.map Value.string)[a]'(by rw [List.length_map]; omega) = .string strs[a] := by rw [List.getElem_map]
            rw [CE] at y0
            clear CE
            subst hSb
            generalize strs[a] = st at *
            have ea := addr_add sb so a
            have hw1 : IntKind.i64.wrap ((out.length : Int) + (st.size : Int)) = (out.length : Int) + (st.size : Int) := IntWalk.i64_in _ (by omega)
            have NX : ¬ out ++ bI (lst st) <+: came → ∀ x ∈ (strs.map lst).take (a + 1), ¬ out ++ bI x <+: came := by
              intro h x hx
              rw [TK.out] at hx
              rcases List.mem_append.1 hx with h2 | h2
              · exact NO.out x h2
              · rw [List.mem_singleton.1 h2]; exact h
            by_cases hfit : out.length + st.size ≤ came.length
            · have g10 : (out.length : Int) + (st.size : Int) ≤ (came.length : Int) := by omega
              have g11 : (out.length : Int) + (st.size : Int) ≤ (bc : Int) := by omega
              have g12 : out.length + st.size ≤ bc := by omega
              have g13 : (out.length : Int) ≤ (out.length : Int) + (st.size : Int) := by omega
              obtain ⟨bb, bo, hbA⟩ : ∃ bb bo, bA = some ⟨bb, bo, none⟩ := by
                rcases RC.out with h | ⟨b', o', e, _⟩
                · have : came = [] := by simpa [B8] using h
                  have h0 : came.length = 0 := by rw [this]; rfl
                  omega
                · exact ⟨b', o', e⟩
              subst hbA
              obtain ⟨str, hstr⟩ : ∃ str : ByteArray, str = ⟨(toU ((came.drop out.length).take st.size)).toArray⟩ := ⟨_, rfl⟩
              have hl : lst str = ((toU came).drop out.length).take st.size := by rw [hstr, ← cut_u8]
              have hcv : ∀ c q, (convert 34 9 (.slice (some ⟨bb, bo + out.length, none⟩) st.size c)).run Try.prog (wr.drewN q) = .ok (.string str) (wr.drewN q) := by
                intro c q
                rw [hstr]
                exact conv_run _ _ _ _ _ (by rw [List.length_take, List.length_drop]; omega) (rd_cut (RC.out.below (bdraw hbl q)) out.length st.size (by omega))
              have ea2 := addr_add bb bo out.length
              clear hstr
              by_cases hq : str = st
              · subst hq
                clear hl
                have HBE := Lib.hid (bthen HB2.out hbl)
                clear hbl
                go_wp2
                go_quiet (fail)
                all_goals go_wp2
                go_returns
                exact ⟨rfl, bdraw HBE.out _⟩
              · have hq2 : (str.toList == st.toList) = false := str_ne hq
                have HN := Lib.hid (NX (by
                  rintro ⟨r, hr⟩
                  refine hq ?_
                  rw [← mk_lst str, ← mk_lst st, hl, ← hr, List.append_assoc]
                  have e1 : ((toU (out ++ (bI (lst st) ++ r))).drop out.length).take st.size = lst st := by
                    unfold toU
                    rw [List.map_append, List.map_append, u8_bI, show out.length = (out.map Go.Proofs.Ytcambbnmeiolgaa.u8).length by rw [List.length_map], List.drop_left, show st.size = (lst st).length by rw [lst_length], List.take_left]
                  rw [e1]))
                clear hl NX
                go_wp2
                go_quiet (fail)
                all_goals go_wp2
                go_roundw
                case rel => exact ⟨a + 1, by omega, by go_num, HN.out, bdraw hbl _⟩
                case measure => simp [intOf]; omega
            · have g10 : ¬ (out.length : Int) + (st.size : Int) ≤ (came.length : Int) := by omega
              have g11 : decide ((out.length : Int) + (st.size : Int) ≤ (came.length : Int)) = false := decide_eq_false g10
              have g12 : decide (out.length + st.size ≤ came.length) = false := decide_eq_false hfit
              have HN := Lib.hid (NX (fun h => by
                have := h.length_le
                rw [List.length_append, bI_length, lst_length] at this
                omega))
              clear NX
              go_wp2
              go_quiet (fail)
              all_goals go_wp2
              go_roundw
              case rel => exact ⟨a + 1, by omega, by go_num, HN.out, bdraw hbl _⟩
              case measure => simp [intOf]; omega
          · exfalso
            obtain ⟨x, hx, hp⟩ := SY.out
            exact NO.out x (by rw [List.take_of_length_le (by rw [List.length_map]; omega)]; exact hx) hp
end Go.Proofs.Ytcambbnmeiolgaa
