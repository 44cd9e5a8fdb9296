import Derived.Test.YtcambbnmeiolgaaCaA
import Derived.Test.YtcambbnmeiolgaaByt
namespace Go.Proofs.Ytcambbnmeiolgaa
open Go.RowKit
/-! The reference's Ends, First -/
theorem sfx_cut {c s : List UInt8} {j : Nat} (h : c.length = j + s.length) : sfx c s = decide (c.drop j = s) := by
  rw [Bool.eq_iff_iff, sfx_iff, List.suffix_iff_eq_drop, decide_eq_true_eq, h, show j + s.length - s.length = j by omega]
  exact eq_comm
set_option maxRecDepth 100000 in
set_option maxHeartbeats 2000000 in
theorem ends_any (B : Option Addr) (bn bc n : Nat) (bs : List Int) (st : ByteArray) (w : World) (hb : bs.length = bn) (hbc : bn ≤ bc) (rB : Rd w B (B8 bs)) (hbn : bn ≤ 70368744177664) (hn : n ≤ bn) (h1 : 1 ≤ st.size) (h16 : st.size ≤ 16) :
    Calls Try.prog 68 #[.slice B bn bc, .int .i64 (n : Int), .string st] w fun e w' => e = .returned (.bool (sfx ((toU bs).take n) (lst st))) ∧ w = w' := by
  by_cases hle : st.size ≤ n
  · obtain ⟨j, rfl⟩ : ∃ j, n = j + st.size := ⟨n - st.size, by omega⟩
    obtain ⟨bb, bo, rfl⟩ : ∃ bb bo, B = some ⟨bb, bo, none⟩ := by
      rcases rB with h | ⟨b', o', e, _⟩
      · have : bs = [] := by simpa [B8] using h
        subst this
        simp at hb
        omega
      · exact ⟨b', o', e⟩
    obtain ⟨str, hstr⟩ : ∃ str : ByteArray, str = ⟨(toU ((bs.drop j).take st.size)).toArray⟩ := ⟨_, rfl⟩
    have hl : lst str = ((toU bs).drop j).take st.size := by rw [hstr, ← cut_u8]
    have hcv : ∀ c, (convert 34 9 (.slice (some ⟨bb, bo + j, none⟩) st.size c)).run Try.prog w = .ok (.string str) w := by
      intro c
      rw [hstr]
      exact conv_run _ _ _ _ _ (by rw [List.length_take, List.length_drop]; omega) (rd_cut rB j st.size (by omega))
    have HS := Lib.hid (show sfx ((toU bs).take (j + st.size)) (lst st) = decide (lst str = lst st) by
      rw [sfx_cut (j := j) (by rw [List.length_take, toU_length, lst_length]; omega), List.drop_take, hl, show j + st.size - j = st.size by omega])
    have ea2 := addr_add bb bo j
    have g1 : (st.size : Int) ≤ (j : Int) + (st.size : Int) := by omega
    have g3 : (j : Int) + (st.size : Int) ≤ (bc : Int) := by omega
    have g5 : j + st.size ≤ bc := by omega
    clear hstr hl
    by_cases hq : str = st
    · subst hq
      have HT := Lib.hid (HS.out.trans (decide_eq_true rfl))
      clear HS
      go_enter Try.func68, Try.ntmps68
      go_wp2
      go_returns
      exact ⟨by rw [HT.out]; rfl, rfl⟩
    · have hq2 : (str.toList == st.toList) = false := str_ne hq
      have HT := Lib.hid (HS.out.trans (decide_eq_false (fun he => hq (by rw [← mk_lst str, he, mk_lst]))))
      clear HS
      go_enter Try.func68, Try.ntmps68
      go_wp2
      go_returns
      exact ⟨by rw [HT.out]; rfl, rfl⟩
  · have HT := Lib.hid (show sfx ((toU bs).take n) (lst st) = false by
      rw [Bool.eq_false_iff]
      intro h
      have := (sfx_iff.1 h).length_le
      rw [List.length_take, lst_length] at this
      omega)
    have g1 : ¬ (st.size : Int) ≤ (n : Int) := by omega
    have g2 : (n : Int) < (st.size : Int) := by omega
    go_enter Try.func68, Try.ntmps68
    go_wp2
    go_returns
    exact ⟨by rw [HT.out]; rfl, rfl⟩
/-- where the longest of the stops begins that end at n; -1: none -/
def frI (n L : Nat) : Int := if L = 0 then -1 else (n : Int) - (L : Int)
set_option maxRecDepth 100000 in
set_option maxHeartbeats 4000000 in
theorem first_any (B S : Option Addr) (bn bc sn sc : Nat) (bs : List Int) (strs : List ByteArray) (w : World) (hb : bs.length = bn) (hbc : bn ≤ bc) (rB : Rd w B (B8 bs)) (hbn : bn ≤ 70368744177664) (hS : strs.length = sn) (rS : Rd w S (strs.map Value.string)) (hsn : sn ≤ 140737488355328) (h16 : ∀ s ∈ strs, 1 ≤ s.size ∧ s.size ≤ 16) (hno : ∀ n, n < bn → longest (strs.map lst) ((toU bs).take n) = 0) :
    Calls Try.prog 63 #[.slice B bn bc, .slice S sn sc] w fun e w' => e = .returned (.int .i64 (frI bn (longest (strs.map lst) (toU bs)))) ∧ w = w' := by
  have RB := Lib.hid rB
  have RS := Lib.hid rS
  have NO := Lib.hid hno
  have H16 := Lib.hid h16
  clear rB rS hno h16
  go_enter Try.func63, Try.ntmps63
  go_wp2
  go_loop [5, 6, 7, 8] (fun nv _ _ _ => ∃ k : Nat, 1 ≤ k ∧ k ≤ bn + 1 ∧ nv = .int .i64 (k : Int) ∧ (k = bn + 1 → longest (strs.map lst) (toU bs) = 0)) (fun nv _ _ _ => bn + 1 - (intOf nv).toNat)
  case atStart => exact ⟨1, by omega, by omega, rfl, fun h => by
    have : bs = [] := List.length_eq_zero_iff.1 (by omega)
    subst this; exact longest_nil⟩
  case round =>
    obtain ⟨k, hk1, hk, rfl, hend⟩ := hrel
    have HE := Lib.hid hend
    clear hend
    by_cases hlt : k ≤ bn
    · have g1 : (k : Int) ≤ (bn : Int) := by omega
      go_wp2
      go_loop [6, 7, 8] (fun fv iv _ => ∃ a : Nat, a ≤ sn ∧ iv = .int .i64 (a : Int) ∧ fv = .int .i64 (frI k (longest ((strs.map lst).take a) ((toU bs).take k)))) (fun _ iv _ => sn - (intOf iv).toNat)
      case atStart => exact ⟨0, by omega, rfl, rfl⟩
      case round =>
        obtain ⟨a, ha, rfl, rfl⟩ := hrel
        by_cases hla : a < sn
        · have g2 : (a : Int) < (sn : Int) := by omega
          obtain ⟨sb, so, rfl, y0⟩ := RS.out.at a (by rw [List.length_map]; omega)
          rw [List.getElem_map] at y0
          have ea := addr_add sb so a
          obtain ⟨hst1, hst⟩ := H16.out (strs[a]'(by omega)) (List.getElem_mem _)
          have HS := Lib.hid (show longest ((strs.map lst).take (a + 1)) ((toU bs).take k) = if sfx ((toU bs).take k) (lst (strs[a]'(by omega))) then max (longest ((strs.map lst).take a) ((toU bs).take k)) (strs[a]'(by omega)).size else longest ((strs.map lst).take a) ((toU bs).take k) by
            rw [List.take_succ_eq_append_getElem (by rw [List.length_map]; omega), List.getElem_map, longest_snoc, lst_length])
          have hsl : sfx ((toU bs).take k) (lst (strs[a]'(by omega))) = true → (strs[a]'(by omega)).size ≤ k := fun h => by
            have := (sfx_iff.1 h).length_le
            rw [List.length_take, lst_length] at this
            omega
          have HSL := Lib.hid hsl
          have hLk := longest_le ((toU bs).take k) ((strs.map lst).take a)
          rw [List.length_take] at hLk
          clear hsl
          generalize longest ((strs.map lst).take a) ((toU bs).take k) = L at *
          generalize strs[a] = st at *
          go_wp2_with fail
          refine (ends_any B bn bc k bs st w hb hbc RB.out hbn hlt hst1 hst).mono ?_
          rintro e w1 ⟨rfl, rfl⟩
          cases hsx : sfx ((toU bs).take k) (lst st) with
          | true =>
            have hkz := HSL.out hsx
            have HN := Lib.hid (HS.out.trans (if_pos hsx))
            clear hsx
            by_cases hL : L = 0
            · have HF := Lib.hid (show frI k L = -1 by unfold frI; rw [if_pos hL])
              have HG := Lib.hid (show frI k (max L st.size) = (k : Int) - (st.size : Int) by unfold frI; rw [if_neg (by omega), show max L st.size = st.size by omega])
              rw [HF.out]
              go_wp2
              go_round
              case rel => exact ⟨a + 1, by omega, by go_num, by rw [HN.out, HG.out]⟩
              case measure => simp [intOf]; omega
            · have HF := Lib.hid (show frI k L = (k : Int) - (L : Int) by unfold frI; rw [if_neg hL])
              have g4 : ¬ (k : Int) - (L : Int) < 0 := by omega
              rw [HF.out]
              by_cases hgt : L < st.size
              · have HG := Lib.hid (show frI k (max L st.size) = (k : Int) - (st.size : Int) by unfold frI; rw [if_neg (by omega), show max L st.size = st.size by omega])
                have g5 : (k : Int) - (st.size : Int) < (k : Int) - (L : Int) := by omega
                go_wp2
                go_round
                case rel => exact ⟨a + 1, by omega, by go_num, by rw [HN.out, HG.out]⟩
                case measure => simp [intOf]; omega
              · have HG := Lib.hid (show frI k (max L st.size) = (k : Int) - (L : Int) by unfold frI; rw [if_neg (by omega), show max L st.size = L by omega])
                have g5 : ¬ (k : Int) - (st.size : Int) < (k : Int) - (L : Int) := by omega
                go_wp2
                go_round
                case rel => exact ⟨a + 1, by omega, by go_num, by rw [HN.out, HG.out]⟩
                case measure => simp [intOf]; omega
          | false =>
            have HN := Lib.hid (HS.out.trans (if_neg (by rw [hsx]; decide)))
            clear hsx
            obtain ⟨fk, hfk⟩ : ∃ fk, frI k L = fk := ⟨_, rfl⟩
            have HFK := Lib.hid hfk
            rw [hfk]
            clear hfk
            go_wp2
            go_round
            case rel => exact ⟨a + 1, by omega, by go_num, by rw [HN.out, HFK.out]⟩
            case measure => simp [intOf]; omega
        · obtain rfl : a = sn := by omega
          have hal : (strs.map lst).take a = strs.map lst := List.take_of_length_le (by rw [List.length_map]; omega)
          rw [hal]
          clear hal
          by_cases hkb : k < bn
          · have h0 := NO.out k hkb
            rw [h0]
            rw [show frI k 0 = -1 from rfl]
            clear h0
            go_wp2
            go_round
            case rel => exact ⟨k + 1, by omega, by omega, by go_num, fun h => by omega⟩
            case measure => simp [intOf]; omega
          · obtain rfl : k = bn := by omega
            have htk : (toU bs).take k = toU bs := List.take_of_length_le (by rw [toU_length]; omega)
            rw [htk]
            have hLk := longest_le (toU bs) (strs.map lst)
            rw [toU_length] at hLk
            obtain ⟨L, hL⟩ : ∃ L, longest (strs.map lst) (toU bs) = L := ⟨_, rfl⟩
            have HL := Lib.hid hL
            rw [hL] at hLk
            rw [hL]
            clear htk hL
            by_cases hz : L = 0
            · subst hz
              rw [show frI k 0 = -1 from rfl]
              go_wp2
              go_round
              case rel => exact ⟨k + 1, by omega, by omega, by go_num, fun h => HL.out⟩
              case measure => simp [intOf] <;> omega
            · have HF := Lib.hid (show frI k L = (k : Int) - (L : Int) by unfold frI; rw [if_neg hz])
              have g4 : (0 : Int) ≤ (k : Int) - (L : Int) := by omega
              have EN := Lib.hid (show (Ending.returned (.int .i64 ((k : Int) - (L : Int))) : Ending) = .returned (.int .i64 (frI k L)) by rw [HF.out])
              rw [HF.out]
              go_wp2
              go_returns
              exact ⟨by rw [HL.out, HF.out]; rfl, rfl⟩
    · obtain rfl : k = bn + 1 := by omega
      have HF := Lib.hid (show frI bn (longest (strs.map lst) (toU bs)) = -1 by rw [HE.out rfl]; rfl)
      have g1 : ¬ ((bn + 1 : Nat) : Int) ≤ (bn : Int) := by omega
      go_wp2
      go_returns
      exact ⟨by rw [HF.out]; rfl, rfl⟩
end Go.Proofs.Ytcambbnmeiolgaa
namespace Go.Proofs.Ytcambbnmeiolgaa
open Go.RowKit
/-! The reference's Waits -/
theorem toU_byte {l : List Int} (h0 : l ≠ []) (hr : ∀ x ∈ l, 0 ≤ x ∧ x < 256) : begL (toU l) = begI l := by
  rw [Bool.eq_iff_iff, begI_u8 hr, begL_begR (by simpa [toU] using h0)]
  rfl
set_option maxRecDepth 100000 in
set_option maxHeartbeats 4000000 in
theorem waits_ref (B S : Option Addr) (bn bc sn sc : Nat) (bs : List Int) (strs : List ByteArray) (w : World) (hb : bs.length = bn) (hbc : bn ≤ bc) (rB : Rd w B (B8 bs)) (hbn : bn ≤ 70368744177664) (hS : strs.length = sn) (rS : Rd w S (strs.map Value.string)) (hsn : sn ≤ 140737488355328) (h16 : ∀ s ∈ strs, 1 ≤ s.size ∧ s.size ≤ 16) (hby : ∀ x ∈ bs, 0 ≤ x ∧ x < 256) :
    Calls Try.prog 64 #[.slice B bn bc, .slice S sn sc] w fun e w' => e = .returned (.int .i64 (waitsL (strs.map lst) (toU bs) : Int)) ∧ Dr w w' := by
  have RB := Lib.hid rB
  have RS := Lib.hid rS
  have H16 := Lib.hid h16
  have HBY := Lib.hid hby
  clear rB rS h16 hby
  go_enter Try.func64, Try.ntmps64
  go_wp2
  go_loopw [5, 6, 7] (fun hv iv _ wr => ∃ a : Nat, a ≤ sn ∧ iv = .int .i64 (a : Int) ∧ hv = .int .i64 (holdL ((strs.map lst).take a) (toU bs) : Int) ∧ Dr w wr) (fun _ iv _ _ => sn - (intOf iv).toNat)
  case atStart => exact ⟨0, by omega, rfl, rfl, Dr.refl _⟩
  case round =>
    obtain ⟨a, ha, rfl, rfl, hbl⟩ := hrel
    by_cases hla : a < sn
    · have g2 : (a : Int) < (sn : Int) := by omega
      obtain ⟨hst1, hst⟩ := H16.out (strs[a]'(by omega)) (List.getElem_mem _)
      have HS := Lib.hid (show holdL ((strs.map lst).take (a + 1)) (toU bs) = hold1 (toU bs) (lst (strs[a]'(by omega))) (holdL ((strs.map lst).take a) (toU bs)) (min ((strs[a]'(by omega)).size - 1) bn) by
        rw [List.take_succ_eq_append_getElem (by rw [List.length_map]; omega), List.getElem_map, holdL_snoc, lst_length, toU_length, hb])
      have AT := Lib.hid (fun (w' : World) (h : Below w.heap.size w w') => (RS.out.below h).at a (by rw [List.length_map]; omega))
      have CE := Lib.hid (show (strs.map Value.string)[a]'(by rw [List.length_map]; omega) = .string (strs[a]'(by omega)) by rw [List.getElem_map])
      have hle := holdL_le (toU bs) ((strs.map lst).take a)
      rw [toU_length, hb] at hle
      generalize holdL ((strs.map lst).take a) (toU bs) = h0 at *
      generalize strs[a] = st at *
      go_wp2
      go_loopw [5, 7] (fun hv kv wr => ∃ k hh : Nat, 1 ≤ k ∧ k ≤ min (st.size - 1) bn + 1 ∧ kv = .int .i64 (k : Int) ∧ hv = .int .i64 (hh : Int) ∧ hh ≤ 70368744177664 ∧ hold1 (toU bs) (lst st) h0 (k - 1) = hh ∧ Dr w wr) (fun _ kv _ => st.size + 1 - (intOf kv).toNat)
      case atStart => exact ⟨1, h0, by omega, by omega, rfl, rfl, by omega, rfl, hbl⟩
      case round =>
        clear hbl
        obtain ⟨k, hh, hk1, hk, rfl, rfl, hhb, hhe, hbl⟩ := hrel
        have HH := Lib.hid hhe
        clear hhe
        obtain ⟨sb, so, rfl, y0⟩ := AT.out _ hbl.below
        rw [CE.out] at y0
        have ea := addr_add sb so a
        by_cases hks : k < st.size
        · have g3 : (k : Int) < (st.size : Int) := by omega
          by_cases hkb : k ≤ bn
          · have g4 : (k : Int) ≤ (bn : Int) := by omega
            obtain ⟨j, hj⟩ : ∃ j, bn = j + k := ⟨bn - k, by omega⟩
            obtain ⟨bb, bo, rfl⟩ : ∃ bb bo, B = some ⟨bb, bo, none⟩ := by
              rcases RB.out with h | ⟨b', o', e, _⟩
              · have : bs = [] := by simpa [B8] using h
                subst this
                simp at hb
                omega
              · exact ⟨b', o', e⟩
            by_cases hgt : hh < k
            · have g5 : decide ((hh : Int) < (k : Int)) = true := decide_eq_true (by omega)
              have hk0 : h0 < k := by
                have := hold1_le (toU bs) (lst st) h0 (k - 1)
                have := HH.out
                omega
              obtain ⟨str, hstr⟩ : ∃ str : ByteArray, str = ⟨(toU (bs.drop j)).toArray⟩ := ⟨_, rfl⟩
              have hl : lst str = (toU bs).drop j := by rw [hstr]; show toU (bs.drop j) = _; unfold toU; rw [List.map_drop]
              have hcv : ∀ c q, (convert 34 9 (.slice (some ⟨bb, bo + j, none⟩) k c)).run Try.prog (wr.drewN q) = .ok (.string str) (wr.drewN q) := by
                intro c q
                rw [hstr]
                have := rd_cut (RB.out.below (bdraw hbl.below q)) j k (by omega)
                rw [List.take_of_length_le (by rw [List.length_drop]; omega)] at this
                exact conv_run _ _ _ _ _ (by rw [List.length_drop]; omega) this
              have SX := Lib.hid (show sfx (toU bs) ((lst st).take k) = decide (lst str = lst (st.extract 0 k)) by
                rw [sfx_cut (j := j) (by rw [List.length_take, toU_length, lst_length]; omega), hl, lst_take])
              have ea2 := addr_add bb bo j
              have g6 : (bn : Int) - (k : Int) = (j : Int) := by omega
              have g7 : j + k ≤ bc := by omega
              have g8 : k ≤ st.size := by omega
              clear hstr hl
              by_cases hq : str = st.extract 0 k
              · have hq2 : (str.toList == (st.extract 0 k).toList) = true := by rw [hq]; simp
                have HN := Lib.hid (hold1_yes hk0 (SX.out.trans (decide_eq_true (by rw [hq]))))
                clear hq SX
                go_wp2
                go_quiet (fail)
                all_goals go_wp2
                go_roundw
                case rel => exact ⟨k + 1, k, by omega, by omega, by go_num, by go_num, by omega, by rw [Nat.add_sub_cancel]; exact HN.out, hbl.draw _⟩
                case measure => simp [intOf]; omega
              · have hq2 : (str.toList == (st.extract 0 k).toList) = false := str_ne hq
                have HN := Lib.hid (hold1_no hk0 (SX.out.trans (decide_eq_false (fun he => hq (by rw [← mk_lst str, he, mk_lst])))))
                clear hq SX
                go_wp2
                go_quiet (fail)
                all_goals go_wp2
                go_roundw
                case rel => exact ⟨k + 1, hh, by omega, by omega, by go_num, rfl, by omega, by rw [Nat.add_sub_cancel]; exact HN.out.trans HH.out, hbl.draw _⟩
                case measure => simp [intOf]; omega
            · have g5 : decide ((hh : Int) < (k : Int)) = false := decide_eq_false (by omega)
              have HN := Lib.hid (show hold1 (toU bs) (lst st) h0 k = hh by
                have h1 := hold1_le (toU bs) (lst st) h0 (k - 1)
                have h2 := HH.out
                rw [hold1_done (by omega)]
                rw [hold1_done (by omega)] at h2
                exact h2)
              go_wp2
              go_quiet (fail)
              all_goals go_wp2
              go_roundw
              case rel => exact ⟨k + 1, hh, by omega, by omega, by go_num, rfl, by omega, by rw [Nat.add_sub_cancel]; exact HN.out, hbl.draw _⟩
              case measure => simp [intOf]; omega
          · have g4 : ¬ (k : Int) ≤ (bn : Int) := by omega
            have g5 : (bn : Int) < (k : Int) := by omega
            go_wp2
            go_roundw
            case rel => exact ⟨a + 1, by omega, by go_num, by rw [HS.out, show min (st.size - 1) bn = k - 1 by omega, HH.out], hbl⟩
            case measure => simp [intOf]; omega
        · have g3 : ¬ (k : Int) < (st.size : Int) := by omega
          have g5 : (st.size : Int) ≤ (k : Int) := by omega
          go_wp2
          go_roundw
          case rel => exact ⟨a + 1, by omega, by go_num, by rw [HS.out, show min (st.size - 1) bn = k - 1 by omega, HH.out], hbl⟩
          case measure => simp [intOf]; omega
    · obtain rfl : a = sn := by omega
      have hal : (strs.map lst).take a = strs.map lst := List.take_of_length_le (by rw [List.length_map]; omega)
      rw [hal]
      have hle := holdL_le (toU bs) (strs.map lst)
      rw [toU_length, hb] at hle
      have WD := Lib.hid (show waitsL (strs.map lst) (toU bs) = holdL (strs.map lst) (toU bs) + tailR ((toU bs).take (bn - holdL (strs.map lst) (toU bs))) (min 3 (bn - holdL (strs.map lst) (toU bs))) by unfold waitsL; rw [toU_length, hb])
      clear hal
      generalize holdL (strs.map lst) (toU bs) = H at *
      obtain ⟨E, hE⟩ : ∃ E, bn = E + H := ⟨bn - H, by omega⟩
      have g3 : (bn : Int) - (H : Int) = (E : Int) := by omega
      rw [show bn - H = E by omega] at WD
      have hEn : ((toU bs).take E).length = E := by rw [List.length_take, toU_length]; omega
      have CUT := Lib.hid (show ∀ r, 0 < r → r ≤ E → begL (((toU bs).take E).drop (((toU bs).take E).length - r)) = begI ((bs.drop (E - r)).take r) from fun r h0 hr => by
        rw [hEn, List.drop_take, show E - (E - r) = r by omega, ← cut_u8, toU_byte (by intro hn; have := congrArg List.length hn; rw [List.length_take, List.length_drop, List.length_nil] at this; omega) (fun x hx => HBY.out x (List.mem_of_mem_drop (List.mem_of_mem_take hx)))])
      clear hEn
      have hEb : E ≤ bn := by omega
      have hHb : H ≤ bn := by omega
      clear hE
      generalize (toU bs).take E = tk at *
      go_wp2
      go_loopw [9, 10] (fun rv _ wr => ∃ r : Nat, r ≤ 3 ∧ rv = .int .i64 (r : Int) ∧ tailR tk (min 3 E) = tailR tk (min r E) ∧ Dr w wr) (fun rv _ _ => (intOf rv).toNat)
      case atStart => exact ⟨3, by omega, rfl, rfl, hbl⟩
      case round =>
        clear hbl
        obtain ⟨r, hr3, rfl, htr, hbl⟩ := hrel
        have TR := Lib.hid htr
        clear htr
        by_cases hr0 : 0 < r
        · have g4 : (0 : Int) < (r : Int) := by omega
          by_cases hrE : r ≤ E
          · have g5 : (r : Int) ≤ (E : Int) := by omega
            obtain ⟨j, hj⟩ : ∃ j, E = j + r := ⟨E - r, by omega⟩
            have HJ := Lib.hid hj
            have k1 : (E : Int) - (r : Int) = (j : Int) := by omega
            have k2 : (E : Int) - (j : Int) = (r : Int) := by omega
            have k3 : E - j = r := by omega
            have k4 : (j : Int) ≤ (E : Int) := by omega
            have k5 : (E : Int) ≤ (bc : Int) := by omega
            have k6 : j ≤ E := by omega
            have k7 : E ≤ bc := by omega
            obtain ⟨bb, bo, rfl⟩ : ∃ bb bo, B = some ⟨bb, bo, none⟩ := by
              rcases RB.out with h | ⟨b', o', e, _⟩
              · have : bs = [] := by simpa [B8] using h
                subst this
                simp at hb
                omega
              · exact ⟨b', o', e⟩
            have CU := Lib.hid (CUT.out r hr0 hrE)
            have RC := Lib.hid (rd_cut (RB.out.below hbl.below) j r (by omega))
            have ea2 := addr_add bb bo j
            rw [show E - r = j by omega] at CU
            clear CUT hj
            go_wp2_with fail
            refine (begins_ref (some ⟨bb, bo + j, none⟩) r _ ((bs.drop j).take r) wr (by rw [List.length_take, List.length_drop]; omega) RC.out hr3).mono ?_
            rintro e w1 ⟨rfl, hb1⟩
            replace hbl := hbl.trans hb1
            clear hb1
            cases hbg : begI ((bs.drop j).take r) with
            | true =>
              have HN := Lib.hid (show waitsL (strs.map lst) (toU bs) = H + r by rw [WD.out, TR.out, show min r E = r by omega, tailR_yes hr0 (CU.out.trans hbg)])
              go_wp2
              go_returns
              exact ⟨by rw [HN.out]; first | rfl | (congr 2; omega), hbl⟩
            | false =>
              have HN := Lib.hid (show tailR tk (min 3 E) = tailR tk (min (r - 1) E) by rw [TR.out, show min r E = r by omega, tailR_no hr0 (CU.out.trans hbg), show min (r - 1) E = r - 1 by omega])
              go_wp2
              go_roundw
              case rel => exact ⟨r - 1, by omega, by go_num, HN.out, hbl⟩
              case measure => simp [intOf]; omega
          · have g5 : ¬ (r : Int) ≤ (E : Int) := by omega
            have g6 : (E : Int) < (r : Int) := by omega
            go_wp2
            go_roundw
            case rel => exact ⟨r - 1, by omega, by go_num, by rw [TR.out, show min r E = min (r - 1) E by omega], hbl⟩
            case measure => simp [intOf]; omega
        · obtain rfl : r = 0 := by omega
          have HN := Lib.hid (show waitsL (strs.map lst) (toU bs) = H by rw [WD.out, TR.out, Nat.zero_min]; rfl)
          go_wp2
          go_returns
          exact ⟨by rw [HN.out]; rfl, hbl⟩
end Go.Proofs.Ytcambbnmeiolgaa
namespace Go.Proofs.Ytcambbnmeiolgaa
open Go.RowKit
/-! What changes lies in S or is new -/
structure Kp (S : Nat → Prop) (w w' : World) : Prop where
  os : w'.os = w.os
  tape : w'.tape = w.tape
  output : w'.output = w.output
  size : w.heap.size ≤ w'.heap.size
  block : ∀ k, k < w.heap.size → ¬ S k → w'.heap[k]? = w.heap[k]?
theorem Kp.refl (S : Nat → Prop) (w : World) : Kp S w w := ⟨rfl, rfl, rfl, Nat.le_refl _, fun _ _ _ => rfl⟩
theorem Kp.trans {S : Nat → Prop} {w w1 w2 : World} (h : Kp S w w1) (h2 : Kp S w1 w2) : Kp S w w2 :=
  ⟨h2.os.trans h.os, h2.tape.trans h.tape, h2.output.trans h.output, Nat.le_trans h.size h2.size, fun k hk hs => (h2.block k (Nat.lt_of_lt_of_le hk h.size) hs).trans (h.block k hk hs)⟩
/-- what the second step changes was changed before, or is new -/
theorem Kp.step {S S2 : Nat → Prop} {w w1 w2 : World} (h : Kp S w w1) (h2 : Kp S2 w1 w2) (hS : ∀ k, k < w.heap.size → S2 k → S k) : Kp S w w2 :=
  ⟨h2.os.trans h.os, h2.tape.trans h.tape, h2.output.trans h.output, Nat.le_trans h.size h2.size, fun k hk hs => (h2.block k (Nat.lt_of_lt_of_le hk h.size) (fun h3 => hs (hS k hk h3))).trans (h.block k hk hs)⟩
theorem Kp.mono {S S2 : Nat → Prop} {w w1 : World} (h : Kp S w w1) (hS : ∀ k, k < w.heap.size → S k → S2 k) : Kp S2 w w1 :=
  ⟨h.os, h.tape, h.output, h.size, fun k hk hs => h.block k hk (fun h1 => hs (hS k hk h1))⟩
theorem Kp.of_below {S : Nat → Prop} {w w1 : World} (h : Below w.heap.size w w1) : Kp S w w1 := ⟨h.os, h.tape, h.output, h.size, fun k hk _ => h.block k hk⟩
theorem Kp.below {S : Nat → Prop} {w w1 w2 : World} (h : Kp S w w1) (hb : Below w1.heap.size w1 w2) : Kp S w w2 := h.trans (.of_below hb)
theorem Kp.of_grown {w w1 : World} {o : Option Nat} (h : w.grownBy w1 o) : Kp (fun k => o = some k) w w1 := ⟨h.os, h.tape, h.output, h.size, fun k hk hs => h.block k hk (fun h1 => hs h1.symm)⟩
theorem Kp.grown {S : Nat → Prop} {w w1 w2 : World} {o : Option Nat} (h : Kp S w w1) (hg : w1.grownBy w2 o) (ho : ∀ k, o = some k → k < w.heap.size → S k) : Kp S w w2 := h.step (.of_grown hg) (fun k hk h1 => ho k h1 hk)
theorem Kp.toBelow {S : Nat → Prop} {w w1 : World} (h : Kp S w w1) {n : Nat} (hn : n ≤ w.heap.size) (hS : ∀ k, k < n → ¬ S k) : Below n w w1 := ⟨h.os, h.tape, h.output, h.size, fun k hk => h.block k (by omega) (hS k hk)⟩
theorem Kp.noneS {S : Nat → Prop} {w w1 : World} (h : Kp S w w1) (hS : ∀ k, k < w.heap.size → ¬ S k) : Below w.heap.size w w1 := h.toBelow (Nat.le_refl _) hS
theorem Kp.set {S : Nat → Prop} {w w1 : World} (h : Kp S w w1) (p i : Nat) (u : Value) (hp : p < w.heap.size → S p) : Kp S w (w1.setCell ⟨p, i, none⟩ u) :=
  h.grown (grown_set w1 p i u) (fun k hk hl => by injection hk with hk; subst hk; exact hp hl)
theorem Blk.kp {S : Nat → Prop} {w w1 : World} {b : Nat} {cs : Array Value} {t : TypeId} (h : Blk w b cs t) (hk : Kp S w w1) (hs : ¬ S b) : Blk w1 b cs t := (hk.block b h.lt hs).trans h
theorem ownKp {S : Nat → Prop} {w w1 : World} {base : Nat} {e : TypeId} {size n : Nat} {v : Value} {xs : List Value} (h : w.ownsRow base e size v n xs) (hk : Kp S w w1) (hs : ∀ q, v.ownBlock = some q → ¬ S q) : w1.ownsRow base e size v n xs :=
  own_kp h (fun q hq => hk.block q (own_lt h q hq).2 (hs q hq))
/-- T holds wherever the blocks of F are as they are -/
def Held (F : Nat → Prop) (T : World → Prop) (w : World) : Prop := ∀ w', (∀ k, k < w.heap.size → F k → w'.heap[k]? = w.heap[k]?) → T w'
section
variable {F F2 S : Nat → Prop} {T T2 : World → Prop} {w w' : World}
theorem Held.now (h : Held F T w) : T w := h w (fun _ _ _ => rfl)
theorem Held.kp (h : Held F T w) (hk : Kp S w w') (hS : ∀ k, k < w.heap.size → S k → ¬ F k) (hF : ∀ k, k < w.heap.size → F k → F2 k) : Held F2 T w' :=
  fun w2 h2 => h w2 (fun k hl hf => (h2 k (Nat.lt_of_lt_of_le hl hk.size) (hF k hl hf)).trans (hk.block k hl (fun hs => hS k hl hs hf)))
theorem Held.mono (h : Held F T w) (hF : ∀ k, k < w.heap.size → F k → F2 k) : Held F2 T w := h.kp (S := fun _ => False) (Kp.refl _ w) (fun _ _ h => h.elim) hF
theorem Held.imp (h : Held F T w) (hT : ∀ w', T w' → T2 w') : Held F T2 w := fun w2 h2 => hT w2 (h w2 h2)
theorem Held.and (h : Held F T w) (h2 : Held F T2 w) : Held F (fun w => T w ∧ T2 w) w := fun w' h' => ⟨h w' h', h2 w' h'⟩
theorem Held.below (h : Held F T w) (hb : Below w.heap.size w w') : Held F T w' := h.kp (S := fun _ => False) (.of_below hb) (fun _ _ h => h.elim) (fun _ _ h => h)
end
end Go.Proofs.Ytcambbnmeiolgaa
namespace Go.Proofs.Ytcambbnmeiolgaa
open Go.RowKit
/-! The reference's stream in memory; comes -/
abbrev RC (Av Av' As cv : Value) (given : Nat) (done : Bool) (long : Nat) : Array Value := #[Av, Av', As, cv, .int .i64 (given : Int), .bool done, .int .i64 (long : Int)]
/-- what a call of the stream at r may change -/
def Rch (r : Nat) (cv : Value) : Nat → Prop := fun k => k = r ∨ cv.ownBlock = some k
/-- the stream at r, within a call that began in w0 -/
structure RfS (w0 : World) (r : Nat) (Av Av' As cv0 : Value) (w : World) (cv : Value) (came : List Int) (given : Nat) (done : Bool) (long : Nat) : Prop where
  bk : Blk w r (RC Av Av' As cv given done long) 98
  ow : w.ownsRow 0 5 1 cv came.length (B8 came)
  ob : cv.ownBlock = cv0.ownBlock ∨ ∀ q, cv.ownBlock = some q → w0.heap.size ≤ q
  kp : Kp (Rch r cv0) w0 w
section
variable {w0 w w' : World} {r : Nat} {Av Av' As cv0 cv : Value} {came : List Int} {given : Nat} {done : Bool} {long : Nat}
theorem RfS.below (h : RfS w0 r Av Av' As cv0 w cv came given done long) (hb : Below w.heap.size w w') : RfS w0 r Av Av' As cv0 w' cv came given done long :=
  ⟨h.bk.below hb, own_below h.ow hb, h.ob, h.kp.below hb⟩
theorem RfS.start (hb : Blk w r (RC Av Av' As cv given done long) 98) (ho : w.ownsRow 0 5 1 cv came.length (B8 came)) : RfS w r Av Av' As cv w cv came given done long :=
  ⟨hb, ho, .inl rfl, Kp.refl _ _⟩
/-- a later part of the call -/
theorem RfS.then {cv2 : Value} {came2 : List Int} {given2 : Nat} {done2 : Bool} {long2 : Nat} (h : RfS w0 r Av Av' As cv0 w cv came given done long) (h2 : RfS w r Av Av' As cv w' cv2 came2 given2 done2 long2) : RfS w0 r Av Av' As cv0 w' cv2 came2 given2 done2 long2 := by
  have hz := h.kp.size
  refine ⟨h2.bk, h2.ow, ?_, h.kp.step h2.kp (fun k hk hs => ?_)⟩
  · rcases h2.ob with e | e
    · rw [e]; exact h.ob
    · exact .inr (fun q hq => Nat.le_trans hz (e q hq))
  · rcases hs with rfl | hs
    · exact .inl rfl
    · rcases h.ob with e | e
      · exact .inr (e ▸ hs)
      · have := e k hs; omega
theorem RfS.sub (h : RfS w0 r Av Av' As cv0 w cv came given done long) (h2 : Kp (Rch r cv) w w') : Kp (Rch r cv0) w0 w' := by
  refine h.kp.step h2 (fun k hk hs => ?_)
  rcases hs with rfl | hs
  · exact .inl rfl
  · rcases h.ob with e | e
    · exact .inr (e ▸ hs)
    · have := e k hs; omega
/-- one byte more -/
theorem RfS.push {g cap : Nat} {x : Int} {o : Obj} {w1 : World} (h : RfS w0 r Av Av' As cv0 w cv came given done long) (os : w1.ownsRow 0 5 1 (.slice (some ⟨g, 0, none⟩) (came.length + 1) cap) (came.length + 1) (B8 came ++ [.int .u8 x])) (hg : ((w.alloc o).drew).grownBy w1 cv.ownBlock) (hat : cv.ownBlock = some g ∨ g = ((w.alloc o).drew).heap.size) :
    RfS w0 r Av Av' As cv0 (w1.setCell ⟨r, 3, none⟩ (.slice (some ⟨g, 0, none⟩) (came.length + 1) cap)) (.slice (some ⟨g, 0, none⟩) (came.length + 1) cap) (came ++ [x]) given done long := by
  have hne := h.bk.not_row (by decide) h.ow
  have k4 := ((h.bk.alloc o).drew).kept hg hne
  have k5 := k4.set 3 (.slice (some ⟨g, 0, none⟩) (came.length + 1) cap)
  have hz := h.kp.size
  have hl : (came ++ [x]).length = came.length + 1 := by simp
  refine ⟨k5, ?_, ?_, ?_⟩
  · rw [hl, show B8 (came ++ [x]) = B8 came ++ [.int .u8 x] by simp [B8]]
    exact own_set_other os r 3 _ (k4.not_row (by decide) os)
  · rcases hat with e | e
    · rcases h.ob with e2 | e2
      · exact .inl (by rw [← e2, e]; rfl)
      · exact .inr (fun q hq => by
          have : g = q := by simpa [Value.ownBlock] using hq
          subst this; exact e2 g e)
    · refine .inr (fun q hq => ?_)
      have : g = q := by simpa [Value.ownBlock] using hq
      have h3 : ((w.alloc o).drew).heap.size = w.heap.size + 1 := by simp
      omega
  · refine Kp.set (Kp.grown ((h.kp.grown (World.grownBy_alloc w o none) (by simp)).grown (o := none) (w2 := (w.alloc o).drew) ⟨rfl, rfl, rfl, Nat.le_refl _, fun _ _ _ => rfl⟩ (by simp)) hg ?_) r 3 _ (fun _ => .inl rfl)
    intro k hk hl
    rcases h.ob with e | e
    · exact .inr (e ▸ hk)
    · have := e k hk; omega
theorem RfS.setDone (h : RfS w0 r Av Av' As cv0 w cv came given done long) (d : Bool) : RfS w0 r Av Av' As cv0 (w.setCell ⟨r, 5, none⟩ (.bool d)) cv came given d long :=
  ⟨h.bk.set 5 (.bool d), own_set_other h.ow r 5 _ (h.bk.not_row (by decide) h.ow), h.ob, h.kp.set r 5 _ (fun _ => .inl rfl)⟩
theorem RfS.setLong (h : RfS w0 r Av Av' As cv0 w cv came given done long) (l : Nat) : RfS w0 r Av Av' As cv0 (w.setCell ⟨r, 6, none⟩ (.int .i64 (l : Int))) cv came given done l :=
  ⟨h.bk.set 6 (.int .i64 (l : Int)), own_set_other h.ow r 6 _ (h.bk.not_row (by decide) h.ow), h.ob, h.kp.set r 6 _ (fun _ => .inl rfl)⟩
theorem RfS.setGiven (h : RfS w0 r Av Av' As cv0 w cv came given done long) (l : Nat) : RfS w0 r Av Av' As cv0 (w.setCell ⟨r, 4, none⟩ (.int .i64 (l : Int))) cv came l done long :=
  ⟨h.bk.set 4 (.int .i64 (l : Int)), own_set_other h.ow r 4 _ (h.bk.not_row (by decide) h.ow), h.ob, h.kp.set r 4 _ (fun _ => .inl rfl)⟩
end
theorem byt_okT {bs : List Int} {ps : List (Int × Int)} {t : Nat} (h : t < (toks bs ps).length) : bytT bs ps t = (toks bs ps).getD t [] := by
  unfold toks at h ⊢
  unfold bytT
  cases hq : vocF bs ps with
  | none => rw [hq] at h; simp at h
  | some ls =>
    rw [hq] at h
    simp only [Option.getD_some] at h ⊢
    rw [if_neg (by omega)]
    rfl
theorem toU_snoc (l : List Int) (x : Int) : toU (l ++ [x]) = toU l ++ [u8 x] := by simp [toU]
theorem bytesU_stop {sts : List (List UInt8)} {s : S3} {l : List Int} {j : Nat} (h : (bytesU sts s (l.take j)).2.2 = true) : bytesU sts s l = bytesU sts s (l.take j) := by
  conv => lhs; rw [← List.take_append_drop j l]
  unfold bytesU
  rw [List.foldl_append]
  exact bytesU_over sts (l.drop j) _ h
/-- what comes leaves -/
def ComOut (w0 : World) (r : Nat) (Av Av' As cv0 : Value) (sts : List (List UInt8)) (s : S3) (given N : Nat) (w' : World) : Prop :=
  ∃ cv came done long, RfS w0 r Av Av' As cv0 w' cv came given done long ∧ RefB sts s given (toU came) done long ∧ came.length ≤ N ∧ (∀ x ∈ came, 0 ≤ x ∧ x < 256)
set_option maxRecDepth 100000 in
set_option maxHeartbeats 8000000 in
theorem comes_any (w0 w : World) (r : Nat) (A A' S : Option Addr) (n m sn c c' sc : Nat) (cv0 cv : Value) (bs : List Int) (ps : List (Int × Int)) (strs : List ByteArray)
    (hst : ∀ w', Kp (Rch r cv0) w0 w' → Voc w' A A' n m bs ps ∧ Rd w' S (strs.map Value.string)) (hS : strs.length = sn) (hsn : sn ≤ 140737488355328) (h16 : ∀ s ∈ strs, 1 ≤ s.size ∧ s.size ≤ 16) (hw16 : ∀ l ∈ toks bs ps, l.length ≤ 16 ∧ ∀ x ∈ l, 0 ≤ x ∧ x < 256)
    (came : List Int) (given long : Nat) (s : S3) (h : RfS w0 r (.slice A n c) (.slice A' m c') (.slice S sn sc) cv0 w cv came given false long) (hB : RefB (strs.map lst) s given (toU came) false long) (t N : Nat) (ht : t < (toks bs ps).length) (hN : came.length ≤ N) (hlen : N ≤ 70368744177000) (hby : ∀ x ∈ came, 0 ≤ x ∧ x < 256) :
    Calls Try.prog 54 #[.pointer (some ⟨r, 0, none⟩), .int .i64 (t : Int)] w fun en w' => en = .returned (.tuple #[]) ∧ ComOut w0 r (.slice A n c) (.slice A' m c') (.slice S sn sc) cv0 (strs.map lst) (tokU (strs.map lst) (toks bs ps) s t) given (N + 16) w' := by
  have a0 : (⟨r, 0, none⟩ : Addr).add 0 = ⟨r, 0, none⟩ := by simpa using addr_add r 0 0
  have a1 : (⟨r, 0, none⟩ : Addr).add 1 = ⟨r, 1, none⟩ := by simpa using addr_add r 0 1
  have a2 : (⟨r, 0, none⟩ : Addr).add 2 = ⟨r, 2, none⟩ := by simpa using addr_add r 0 2
  have a3 : (⟨r, 0, none⟩ : Addr).add 3 = ⟨r, 3, none⟩ := by simpa using addr_add r 0 3
  have a5 : (⟨r, 0, none⟩ : Addr).add 5 = ⟨r, 5, none⟩ := by simpa using addr_add r 0 5
  have a6 : (⟨r, 0, none⟩ : Addr).add 6 = ⟨r, 6, none⟩ := by simpa using addr_add r 0 6
  obtain ⟨cA, cc, rfl, _, _⟩ := own_rd h.ow
  by_cases ht0 : t = 0
  · subst ht0
    have x3 : w.cell? ⟨r, 3, none⟩ = some (.slice cA came.length cc) := h.bk.cell _
    have x5 : w.cell? ⟨r, 5, none⟩ = some (.bool false) := h.bk.cell _
    have x6 : w.cell? ⟨r, 6, none⟩ = some (.int .i64 (long : Int)) := h.bk.cell _
    have z5 := h.bk.frozen 5
    have z6 := h.bk.frozen 6
    have OUT := Lib.hid (show ComOut w0 r (.slice A n c) (.slice A' m c') (.slice S sn sc) cv0 (strs.map lst) (tokU (strs.map lst) (toks bs ps) s 0) given (N + 16) ((w.setCell ⟨r, 5, none⟩ (.bool true)).setCell ⟨r, 6, none⟩ (.int .i64 (came.length : Int))) from
      ⟨_, came, true, came.length, (h.setDone true).setLong came.length, by have := refB_end hB; rw [toU_length] at this; exact this, by omega, hby⟩)
    have y3 : (w.setCell ⟨r, 5, none⟩ (.bool true)).cell? ⟨r, 3, none⟩ = some (.slice cA came.length cc) := (h.setDone true).bk.cell _
    have y6 : (w.setCell ⟨r, 5, none⟩ (.bool true)).cell? ⟨r, 6, none⟩ = some (.int .i64 (long : Int)) := (h.setDone true).bk.cell _
    have v6 := (h.setDone true).bk.frozen 6
    clear h hB hst
    go_enter Try.func54, Try.ntmps54
    go_wp2
    refine bodyPost_ret (results_none rfl _ _ _) rfl ?_
    exact ⟨rfl, OUT.out⟩
  · have hkz : ((t : Int) == 0) = false := by simpa using ht0
    have htz : ¬ (t : Int) = 0 := by omega
    have x0 : w.cell? ⟨r, 0, none⟩ = some (.slice A n c) := h.bk.cell _
    have x1 : w.cell? ⟨r, 1, none⟩ = some (.slice A' m c') := h.bk.cell _
    have TU := Lib.hid (show tokU (strs.map lst) (toks bs ps) s t = bytesU (strs.map lst) s ((toks bs ps).getD t []) from if_neg ht0)
    have hl16 := hw16 ((toks bs ps).getD t []) (by rw [List.getD_eq_getElem?_getD, List.getElem?_eq_getElem ht]; exact List.getElem_mem _)
    have BT := Lib.hid (byt_okT ht)
    go_enter Try.func54, Try.ntmps54
    go_wp2_with fail
    refine (refBytes_any A A' n m c c' bs ps t w (hst w h.kp).1).mono ?_
    rintro e w2 ⟨v, rfl, ov, hb2⟩
    rw [BT.out] at ov
    generalize (toks bs ps).getD t [] = L at *
    obtain ⟨l16, hx⟩ := hl16
    have HX := Lib.hid hx
    have hrl := h.bk.lt
    have hvb := fun q hq => (own_lt ov q hq).1
    have hcl := fun q hq => (own_lt h.ow q hq).2
    replace h := h.below hb2
    have HST := Lib.hid (show ∀ w', Kp (Rch r (.slice cA came.length cc)) w2 w' → Rd w' S (strs.map Value.string) from fun w' hk => (hst w' (h.sub hk)).2)
    have HVV := Lib.hid (show ∀ w', Kp (Rch r (.slice cA came.length cc)) w2 w' → w'.ownsRow w.heap.size 5 1 v L.length (B8 L) from fun w' hk => ownKp ov hk (fun q hq => by
      have := hvb q hq
      rintro (h1 | h1)
      · omega
      · have := hcl q h1; omega))
    have HB := Lib.hid hB
    have HBY := Lib.hid hby
    have HH := Lib.hid h
    have hpos : ∀ x ∈ strs.map lst, 1 ≤ x.length := by
      intro x hx
      obtain ⟨y, hy, rfl⟩ := List.mem_map.1 hx
      rw [lst_length]; exact (h16 y hy).1
    have HPOS := Lib.hid hpos
    obtain ⟨vA, vc, rfl, _, _⟩ := own_rd ov
    have START := RfS.start (given := given) (done := false) (long := long) h.bk h.ow
    clear hst hB hby ov hvb hcl hb2 hpos x0 x1 h hx
    go_wp2
    go_loopw [6, 7] (fun iv _ wr => ∃ (j : Nat) (cv : Value) (came2 : List Int) (done2 : Bool) (long2 : Nat), j ≤ L.length ∧ iv = .int .i64 (j : Int) ∧ RfS w2 r (.slice A n c) (.slice A' m c') (.slice S sn sc) (.slice cA came.length cc) wr cv came2 given done2 long2 ∧ RefB (strs.map lst) (bytesU (strs.map lst) s (L.take j)) given (toU came2) done2 long2 ∧ came2.length ≤ N + j ∧ (∀ x ∈ came2, 0 ≤ x ∧ x < 256)) (fun iv _ _ => L.length - (intOf iv).toNat)
    case atStart => exact ⟨0, _, came, false, long, by omega, rfl, START, by simpa [bytesU] using HB.out, by omega, HBY.out⟩
    case round =>
      clear START
      obtain ⟨j, cv, came2, done2, long2, hj, rfl, hR, hRB, hlen2, hby2⟩ := hrel
      have RB := Lib.hid hRB
      have BY2 := Lib.hid hby2
      clear hRB hby2
      have x5 : wr.cell? ⟨r, 5, none⟩ = some (.bool done2) := hR.bk.cell _
      cases done2 with
      | true =>
        have OUT := Lib.hid (show ComOut w0 r (.slice A n c) (.slice A' m c') (.slice S sn sc) cv0 (strs.map lst) (tokU (strs.map lst) (toks bs ps) s t) given (N + 16) wr from
          ⟨cv, came2, true, long2, HH.out.then hR, by rw [TU.out, bytesU_stop RB.out.ov]; exact RB.out, by omega, BY2.out⟩)
        by_cases hlt : j < L.length
        · have g1 : (j : Int) < (L.length : Int) := by omega
          clear hR
          go_wp2
          go_end0
          exact ⟨rfl, OUT.out⟩
        · have g1 : ¬ (j : Int) < (L.length : Int) := by omega
          clear hR
          go_wp2
          go_end0
          exact ⟨rfl, OUT.out⟩
      | false =>
        by_cases hlt : j < L.length
        · have g1 : (j : Int) < (L.length : Int) := by omega
          obtain ⟨bb, bo, rfl, y0⟩ := (own_rdv (HVV.out wr hR.kp)).b8 j hlt
          have ea := addr_add bb bo j
          have hxb := HX.out (L[j]'hlt) (List.getElem_mem _)
          have NX := Lib.hid (show bytesU (strs.map lst) s (L.take (j + 1)) = stepU (strs.map lst) (bytesU (strs.map lst) s (L.take j)) (u8 (L[j]'hlt)) by rw [List.take_succ_eq_append_getElem hlt, bytesU_snoc])
          have STP := Lib.hid (refB_step RB.out (u8 (L[j]'hlt)) HPOS.out long2)
          rw [← NX.out, ← toU_snoc] at STP
          clear NX
          obtain ⟨kA, kc, rfl, _, _⟩ := own_rd hR.ow
          generalize (L[j]'hlt) = x at *
          have x3 : wr.cell? ⟨r, 3, none⟩ = some (.slice kA came2.length kc) := hR.bk.cell _
          have x3' : ((wr.alloc (.cells #[.int .u8 x] 5)).drew).cell? ⟨r, 3, none⟩ = some (.slice kA came2.length kc) := ((hR.bk.alloc _).drew).cell _
          have hns := hR.bk.not_row (by decide) hR.ow
          have k1 := (hR.bk.alloc (.cells #[.int .u8 x] 5)).drew
          have orb := hR.ow
          have HR := Lib.hid hR
          have hrz := hR.bk.lt
          clear hR
          go_wp2
          go_region_law ((refine appStep (w0 := (wr.alloc (.cells #[.int .u8 x] 5)).drew) 0 rfl _ _ 34 5 (.int .u8 0) 1 1 rfl Try.underlying34 info5 rfl (by decide) (by decide) (.slice kA came2.length kc) came2.length (B8 came2) wr.heap.size #[.int .u8 x] rfl rfl rfl (by simp [Value.oneCell']) (Blk.new wr _ 5) (orb.alloc _) (Below.refl _ _) (by omega) (by omega) ?_; intro g cap w4 os4 hb4 hg4 hat4; have k4 := k1.kept hg4 hns; have z2 := k4.frozen 3; have z3 : w4.cell? ⟨r, 3, none⟩ = some (.slice kA came2.length kc) := k4.cell _))
          all_goals
            have hR := RfS.push HR.out os4 hg4 hat4
            clear k1 k4 z2 z3 os4 hb4 hg4 hat4 orb x3 x3' x5 hns y0 ea HR hrz
            generalize (w4.setCell ⟨r, 3, none⟩ (.slice (some ⟨g, 0, none⟩) (came2.length + 1) cap)) = w5 at *
            have y3 : w5.cell? ⟨r, 3, none⟩ = some (.slice (some ⟨g, 0, none⟩) (came2.length + 1) cap) := hR.bk.cell _
            have y2 : w5.cell? ⟨r, 2, none⟩ = some (.slice S sn sc) := hR.bk.cell _
            have y5 : w5.cell? ⟨r, 5, none⟩ = some (.bool false) := hR.bk.cell _
            have y6 : w5.cell? ⟨r, 6, none⟩ = some (.int .i64 (long2 : Int)) := hR.bk.cell _
            have z5 := hR.bk.frozen 5
            have HF := Lib.hid (show ∀ q, Calls Try.prog 63 #[.slice (some ⟨g, 0, none⟩) (came2.length + 1) cap, .slice S sn sc] (w5.drewN q) (fun e w' => e = .returned (.int .i64 (frI (came2.length + 1) (longest (strs.map lst) (toU (came2 ++ [x]))))) ∧ w' = w5.drewN q) from fun q => by
              obtain ⟨_, _, he, hcp, _⟩ := own_rd hR.ow
              injection he with _ he1 he2
              refine (first_any (some ⟨g, 0, none⟩) S (came2.length + 1) cap sn sc (came2 ++ [x]) strs (w5.drewN q) (by simp) (by rw [he2]; simpa using hcp) ((own_rdv hR.ow).below (bdraw (Below.refl _ _) q)) (by omega) hS ((HST.out _ hR.kp).below (bdraw (Below.refl _ _) q)) hsn h16 ?_).mono (fun e w' h => ⟨h.1, h.2.symm⟩)
              intro k hk
              have := (RB.out.go rfl).2.1 k (by rw [toU_length]; omega)
              rw [toU_snoc, List.take_append_of_le_length (by rw [toU_length]; omega)]
              exact this)
            have BY3 := Lib.hid (show ∀ y ∈ came2 ++ [x], 0 ≤ y ∧ y < 256 from fun y hy => by
              rcases List.mem_append.1 hy with h | h
              · exact BY2.out y h
              · rw [List.mem_singleton.1 h]; exact hxb)
            have hLl := longest_le (toU (came2 ++ [x])) (strs.map lst)
            rw [toU_length, List.length_append, List.length_singleton] at hLl
            have CL := Lib.hid (show (toU (came2 ++ [x])).length = came2.length + 1 by rw [toU_length, List.length_append, List.length_singleton])
            rw [CL.out] at STP
            have HR := Lib.hid hR
            clear hR CL
            generalize longest (strs.map lst) (toU (came2 ++ [x])) = K at *
            by_cases hK : K = 0
            · subst hK
              have ST1 := Lib.hid (STP.out.1 rfl)
              clear STP
              go_wp2
              go_quiet ((go_at_call 63; exact Calls.quiet_of_same (HF.out _)))
              all_goals rw [show frI (came2.length + 1) 0 = -1 from rfl]
              all_goals go_wp2
              go_roundw
              case rel => exact ⟨j + 1, _, came2 ++ [x], false, long2, by omega, by go_num, HR.out.below (bdraw (Below.refl _ _) _), ST1.out, by simp; omega, BY3.out⟩
              case measure => simp [intOf]; omega
            · obtain ⟨M, hM⟩ : ∃ M, came2.length + 1 = M + K := ⟨came2.length + 1 - K, by omega⟩
              have ST1 := Lib.hid (STP.out.2 (by omega))
              rw [show came2.length + 1 - K = M by omega] at ST1
              have HG := Lib.hid (show frI (came2.length + 1) K = (M : Int) by unfold frI; rw [if_neg hK]; omega)
              have gM : (0 : Int) ≤ (M : Int) := by omega
              clear STP hM hK
              go_wp2
              go_quiet ((go_at_call 63; exact Calls.quiet_of_same (HF.out _)))
              all_goals rw [HG.out]
              all_goals have HR2 := Lib.hid (((HR.out.below (bdraw (Below.refl _ _) nq)).setDone true).setLong M)
              all_goals have z6 := ((HR.out.below (bdraw (Below.refl _ _) nq)).setDone true).bk.frozen 6
              all_goals have v6 : ((w5.drewN nq).setCell ⟨r, 5, none⟩ (.bool true)).cell? ⟨r, 6, none⟩ = some (.int .i64 (long2 : Int)) := ((HR.out.below (bdraw (Below.refl _ _) nq)).setDone true).bk.cell _
              all_goals go_wp2
              go_roundw
              case rel => exact ⟨j + 1, _, came2 ++ [x], true, M, by omega, by go_num, HR2.out, ST1.out, by simp; omega, BY3.out⟩
              case measure => simp [intOf]; omega
        · obtain rfl : j = L.length := by omega
          have g1 : ¬ (L.length : Int) < (L.length : Int) := by omega
          have OUT := Lib.hid (show ComOut w0 r (.slice A n c) (.slice A' m c') (.slice S sn sc) cv0 (strs.map lst) (tokU (strs.map lst) (toks bs ps) s t) given (N + 16) wr from
            ⟨cv, came2, false, long2, HH.out.then hR, by rw [TU.out]; have := RB.out; rw [List.take_length] at this; exact this, by omega, BY2.out⟩)
          clear hR
          go_wp2
          go_end0
          exact ⟨rfl, OUT.out⟩
end Go.Proofs.Ytcambbnmeiolgaa
namespace Go.Proofs.Ytcambbnmeiolgaa
open Go.RowKit
theorem bI_toU {l : List Int} (h : ∀ x ∈ l, 0 ≤ x ∧ x < 256) : bI (toU l) = l := by
  unfold bI toU
  rw [List.map_map]
  conv => rhs; rw [← List.map_id l]
  refine List.map_congr_left (fun x hx => ?_)
  have := h x hx
  show ((u8 x).toNat : Int) = x
  unfold u8
  rw [UInt8.toNat_ofNat']
  omega
/-- a part of what is read -/
theorem rd_sub {w : World} {A : Option Addr} {l : List Int} (h : Rd w A (B8 l)) (a tz : Nat) (h1 : a ≤ tz) (h2 : tz ≤ l.length) : Rd w (A.map (·.add a)) (B8 ((l.take tz).drop a)) := by
  rcases Nat.lt_or_ge a tz with hlt | hge
  · rcases h with h | ⟨b, o, he, h⟩
    · have : l = [] := by simpa [B8] using h
      subst this
      simp at h2
      omega
    · subst he
      have := rd_cut (l := l) (.inr ⟨b, o, rfl, h⟩) a (tz - a) (by omega)
      rw [List.drop_take]
      rw [show (some (⟨b, o, none⟩ : Addr)).map (·.add a) = some ⟨b, o + a, none⟩ from congrArg some (addr_add b o a)]
      exact this
  · refine .inl ?_
    rw [List.drop_of_length_le (by rw [List.length_take]; omega)]
    rfl
/-- what gives leaves -/
def GivOut (w0 w : World) (r : Nat) (Av Av' As cv0 cv : Value) (came : List Int) (s : S3) (tz : Nat) (done : Bool) (long : Nat) (en : Ending) (w' : World) : Prop :=
  ∃ u, en = .returned u ∧ w'.ownsRow w.heap.size 5 1 u s.2.1.length (B8 s.2.1) ∧ RfS w0 r Av Av' As cv0 w' cv came tz done long
set_option maxRecDepth 100000 in
set_option maxHeartbeats 1200000 in
theorem gives_any (w0 w : World) (r : Nat) (A A' S : Option Addr) (n m sn c c' sc : Nat) (cv0 cv : Value) (strs : List ByteArray)
    (hst : ∀ w', Kp (Rch r cv0) w0 w' → Rd w' S (strs.map Value.string)) (hS : strs.length = sn) (hsn : sn ≤ 140737488355328) (h16 : ∀ s ∈ strs, 1 ≤ s.size ∧ s.size ≤ 16)
    (came : List Int) (given long : Nat) (done : Bool) (s : S3) (h : RfS w0 r (.slice A n c) (.slice A' m c') (.slice S sn sc) cv0 w cv came given done long) (hB : RefB (strs.map lst) s given (toU came) done long) (hlen : came.length ≤ 70368744177664) (hby : ∀ x ∈ came, 0 ≤ x ∧ x < 256) :
    Calls Try.prog 55 #[.pointer (some ⟨r, 0, none⟩)] w (GivOut w0 w r (.slice A n c) (.slice A' m c') (.slice S sn sc) cv0 cv came s (toR (strs.map lst) (toU came) done long) done long) := by
  have a2 : (⟨r, 0, none⟩ : Addr).add 2 = ⟨r, 2, none⟩ := by simpa using addr_add r 0 2
  have a3 : (⟨r, 0, none⟩ : Addr).add 3 = ⟨r, 3, none⟩ := by simpa using addr_add r 0 3
  have a4 : (⟨r, 0, none⟩ : Addr).add 4 = ⟨r, 4, none⟩ := by simpa using addr_add r 0 4
  have a5 : (⟨r, 0, none⟩ : Addr).add 5 = ⟨r, 5, none⟩ := by simpa using addr_add r 0 5
  have a6 : (⟨r, 0, none⟩ : Addr).add 6 = ⟨r, 6, none⟩ := by simpa using addr_add r 0 6
  obtain ⟨hgt, htl, hso⟩ := refB_out hB
  rw [toU_length] at htl
  have SO := Lib.hid (show s.2.1 = (came.take (toR (strs.map lst) (toU came) done long)).drop given by
    rw [hso, show ((toU came).take (toR (strs.map lst) (toU came) done long)).drop given = toU ((came.take (toR (strs.map lst) (toU came) done long)).drop given) by unfold toU; rw [List.map_drop, List.map_take], bI_toU (fun x hx => hby x (List.mem_of_mem_take (List.mem_of_mem_drop hx)))])
  have x5 : w.cell? ⟨r, 5, none⟩ = some (.bool done) := h.bk.cell _
  have x6 : w.cell? ⟨r, 6, none⟩ = some (.int .i64 (long : Int)) := h.bk.cell _
  clear hso hB
  rcases h.ow.2 with ⟨rfl, h0⟩ | ⟨g, cc, cur, rfl, _, _, hcc, _⟩
  · obtain rfl : came = [] := List.length_eq_zero_iff.1 h0
    obtain ⟨tz, htz⟩ : ∃ tz, tz = toR (strs.map lst) (toU []) done long := ⟨_, rfl⟩
    rw [← htz] at htl SO hgt ⊢
    obtain rfl : tz = 0 := by have : tz ≤ 0 := htl; omega
    obtain rfl : given = 0 := by omega
    cases done with
    | true =>
      obtain rfl : long = 0 := htz.symm
      clear htz
      have hwB : Below w.heap.size w w.drew := (Below.refl _ _).drew
      go_enter Try.func55, Try.ntmps55
      have z3 : w.cell? ⟨r, 3, none⟩ = some (.slice none 0 0) := h.bk.cell _
      have z4 : w.cell? ⟨r, 4, none⟩ = some (.int .i64 0) := h.bk.cell _
      have z3' : w.drew.cell? ⟨r, 3, none⟩ = some (.slice none 0 0) := z3
      have z4' : w.drew.cell? ⟨r, 4, none⟩ = some (.int .i64 0) := z4
      have HRA := Lib.hid (h.below (Below.drew (Below.refl _ _)))
      
      have HW := Lib.hid hwB
      go_wp2
      go_region_law ((try go_simp); go_at_call 26; refine (copyBytes_any none 0 0 [] rfl (by omega) _ (.inl rfl)).mono ?_; rintro e w4 ⟨u, rfl, ou, hb4⟩)
      all_goals have R4 := HRA.out.below hb4
      all_goals have v4 := R4.bk.frozen 4
      all_goals have v5 : w4.cell? ⟨r, 4, none⟩ = some (.int .i64 0) := R4.bk.cell _
      all_goals have OUT := Lib.hid (show GivOut w0 w r (.slice A n c) (.slice A' m c') (.slice S sn sc) cv0 (.slice none 0 0) [] s 0 true 0 (.returned u) (w4.setCell ⟨r, 4, none⟩ (.int .i64 0)) from
        ⟨u, rfl, by rw [SO.out]; exact own_set_other (own_base ou (show _ ≤ _ from HW.out.size)) r 4 _ (R4.bk.not_row (by decide) ou), R4.setGiven 0⟩)
      all_goals clear R4 ou hb4
      all_goals go_wp2
      all_goals (go_returns; exact OUT.out)
    | false =>
      clear htz
      have WR := Lib.hid (fun k => waits_ref none S 0 0 sn sc [] strs (w.drewN k) rfl (by omega) (.inl rfl) (by omega) hS ((hst w h.kp).below (bdraw (Below.refl _ _) k)) hsn h16 hby)
      have hwl := waitsL_le (strs.map lst) (toU [])
      rw [show waitsL (strs.map lst) (toU []) = 0 by simpa [toU] using hwl] at WR
      have x3 : w.cell? ⟨r, 3, none⟩ = some (.slice none 0 0) := h.bk.cell _
      have x2 : w.cell? ⟨r, 2, none⟩ = some (.slice S sn sc) := h.bk.cell _
      have x3' : w.drew.cell? ⟨r, 3, none⟩ = some (.slice none 0 0) := x3
      have x2' : w.drew.cell? ⟨r, 2, none⟩ = some (.slice S sn sc) := x2
      go_enter Try.func55, Try.ntmps55
      go_wp2
      go_quiet ((go_at_call 64; exact Calls.quiet_of (WR.out _)))
      have hwB : Below w.heap.size w (w.drewN nq) := bdraw (Below.refl _ _) nq
      have R3 := h.below hwB
      clear x2 x3 x2' x3' x5 x6
      generalize w.drewN nq = w3 at *
      have z3 : w3.cell? ⟨r, 3, none⟩ = some (.slice none 0 0) := R3.bk.cell _
      have z4 : w3.cell? ⟨r, 4, none⟩ = some (.int .i64 0) := R3.bk.cell _
      have z3' : w3.drew.cell? ⟨r, 3, none⟩ = some (.slice none 0 0) := z3
      have z4' : w3.drew.cell? ⟨r, 4, none⟩ = some (.int .i64 0) := z4
      have HRA := Lib.hid (R3.below (Below.drew (Below.refl _ _)))
      
      have HW := Lib.hid hwB
      go_wp2
      go_region_law ((try go_simp); go_at_call 26; refine (copyBytes_any none 0 0 [] rfl (by omega) _ (.inl rfl)).mono ?_; rintro e w4 ⟨u, rfl, ou, hb4⟩)
      all_goals have R4 := HRA.out.below hb4
      all_goals have v4 := R4.bk.frozen 4
      all_goals have v5 : w4.cell? ⟨r, 4, none⟩ = some (.int .i64 0) := R4.bk.cell _
      all_goals have OUT := Lib.hid (show GivOut w0 w r (.slice A n c) (.slice A' m c') (.slice S sn sc) cv0 (.slice none 0 0) [] s 0 false long (.returned u) (w4.setCell ⟨r, 4, none⟩ (.int .i64 0)) from
        ⟨u, rfl, by rw [SO.out]; exact own_set_other (own_base ou (show _ ≤ _ from HW.out.size)) r 4 _ (R4.bk.not_row (by decide) ou), R4.setGiven 0⟩)
      all_goals clear R4 ou hb4
      all_goals go_wp2
      all_goals (go_returns; exact OUT.out)
  · by_cases hcg : cc = given
    · obtain rfl : given = cc := hcg.symm
      obtain ⟨N, hN⟩ : ∃ N, N = came.length := ⟨_, rfl⟩
      have htz : toR (strs.map lst) (toU came) done long = came.length := by omega
      rw [htz] at SO ⊢
      obtain rfl : given = came.length := by omega
      clear hN
      cases done with
      | true =>
        obtain rfl : long = came.length := htz
        have hwB : Below w.heap.size w w.drew := (Below.refl _ _).drew
        go_enter Try.func55, Try.ntmps55
        have z3 : w.cell? ⟨r, 3, none⟩ = some (.slice (some ⟨g, 0, none⟩) came.length came.length) := h.bk.cell _
        have z4 : w.cell? ⟨r, 4, none⟩ = some (.int .i64 (came.length : Int)) := h.bk.cell _
        have z3' : w.drew.cell? ⟨r, 3, none⟩ = some (.slice (some ⟨g, 0, none⟩) came.length came.length) := z3
        have z4' : w.drew.cell? ⟨r, 4, none⟩ = some (.int .i64 (came.length : Int)) := z4
        have HRA := Lib.hid (h.below (Below.drew (Below.refl _ _)))
        
        have HW := Lib.hid hwB
        go_wp2
        go_region_law ((try go_simp); go_at_call 26; refine (copyBytes_any (some ⟨g, 0, none⟩) 0 _ [] rfl (by omega) _ (.inl rfl)).mono ?_; rintro e w4 ⟨u, rfl, ou, hb4⟩)
        all_goals have R4 := HRA.out.below hb4
        all_goals have v4 := R4.bk.frozen 4
        all_goals have v5 : w4.cell? ⟨r, 4, none⟩ = some (.int .i64 (came.length : Int)) := R4.bk.cell _
        all_goals have OUT := Lib.hid (show GivOut w0 w r (.slice A n c) (.slice A' m c') (.slice S sn sc) cv0 (.slice (some ⟨g, 0, none⟩) came.length came.length) came s came.length true came.length (.returned u) (w4.setCell ⟨r, 4, none⟩ (.int .i64 (came.length : Int))) from
          ⟨u, rfl, by rw [SO.out]; exact own_set_other (by rw [show (came.take came.length).drop came.length = [] by simp]; exact own_base ou (show _ ≤ _ from HW.out.size)) r 4 _ (R4.bk.not_row (by decide) ou), R4.setGiven came.length⟩)
        all_goals clear R4 ou hb4
        all_goals go_wp2
        all_goals (go_returns; exact OUT.out)
      | false =>
        have WR := Lib.hid (fun k => waits_ref (some ⟨g, 0, none⟩) S came.length came.length sn sc came strs (w.drewN k) rfl hcc ((own_rdv h.ow).below (bdraw (Below.refl _ _) k)) hlen hS ((hst w h.kp).below (bdraw (Below.refl _ _) k)) hsn h16 hby)
        have hw0 : (toU came).length - waitsL (strs.map lst) (toU came) = came.length := htz
        have hwl := waitsL_le (strs.map lst) (toU came)
        rw [toU_length] at hw0 hwl
        rw [show waitsL (strs.map lst) (toU came) = 0 by omega] at WR
        clear hw0 hwl htz
        have x3 : w.cell? ⟨r, 3, none⟩ = some (.slice (some ⟨g, 0, none⟩) came.length came.length) := h.bk.cell _
        have x2 : w.cell? ⟨r, 2, none⟩ = some (.slice S sn sc) := h.bk.cell _
        have x3' : w.drew.cell? ⟨r, 3, none⟩ = some (.slice (some ⟨g, 0, none⟩) came.length came.length) := x3
        have x2' : w.drew.cell? ⟨r, 2, none⟩ = some (.slice S sn sc) := x2
        go_enter Try.func55, Try.ntmps55
        go_wp2
        go_quiet ((go_at_call 64; exact Calls.quiet_of (WR.out _)))
        have hwB : Below w.heap.size w (w.drewN nq) := bdraw (Below.refl _ _) nq
        have R3 := h.below hwB
        clear x2 x3 x2' x3' x5 x6
        generalize w.drewN nq = w3 at *
        have z3 : w3.cell? ⟨r, 3, none⟩ = some (.slice (some ⟨g, 0, none⟩) came.length came.length) := R3.bk.cell _
        have z4 : w3.cell? ⟨r, 4, none⟩ = some (.int .i64 (came.length : Int)) := R3.bk.cell _
        have z3' : w3.drew.cell? ⟨r, 3, none⟩ = some (.slice (some ⟨g, 0, none⟩) came.length came.length) := z3
        have z4' : w3.drew.cell? ⟨r, 4, none⟩ = some (.int .i64 (came.length : Int)) := z4
        have HRA := Lib.hid (R3.below (Below.drew (Below.refl _ _)))
        
        have HW := Lib.hid hwB
        go_wp2
        go_region_law ((try go_simp); go_at_call 26; refine (copyBytes_any (some ⟨g, 0, none⟩) 0 _ [] rfl (by omega) _ (.inl rfl)).mono ?_; rintro e w4 ⟨u, rfl, ou, hb4⟩)
        all_goals have R4 := HRA.out.below hb4
        all_goals have v4 := R4.bk.frozen 4
        all_goals have v5 : w4.cell? ⟨r, 4, none⟩ = some (.int .i64 (came.length : Int)) := R4.bk.cell _
        all_goals have OUT := Lib.hid (show GivOut w0 w r (.slice A n c) (.slice A' m c') (.slice S sn sc) cv0 (.slice (some ⟨g, 0, none⟩) came.length came.length) came s came.length false long (.returned u) (w4.setCell ⟨r, 4, none⟩ (.int .i64 (came.length : Int))) from
          ⟨u, rfl, by rw [SO.out]; exact own_set_other (by rw [show (came.take came.length).drop came.length = [] by simp]; exact own_base ou (show _ ≤ _ from HW.out.size)) r 4 _ (R4.bk.not_row (by decide) ou), R4.setGiven came.length⟩)
        all_goals clear R4 ou hb4
        all_goals go_wp2
        all_goals (go_returns; exact OUT.out)
    · cases done with
      | true =>
        rw [show toR (strs.map lst) (toU came) true long = long from rfl] at *
        have hwB : Below w.heap.size w w.drew := (Below.refl _ _).drew
        obtain ⟨tz, htz⟩ : ∃ tz, tz = long := ⟨_, rfl⟩
        subst htz
        have k1 : (given : Int) ≤ (tz : Int) := by omega
        have k2 : (tz : Int) ≤ (cc : Int) := by omega
        have k3 : tz ≤ cc := by omega
        have k4 : (tz : Int) - (given : Int) = ((tz - given : Nat) : Int) := by omega
        go_enter Try.func55, Try.ntmps55
        have z3 : w.cell? ⟨r, 3, none⟩ = some (.slice (some ⟨g, 0, none⟩) came.length cc) := h.bk.cell _
        have z4 : w.cell? ⟨r, 4, none⟩ = some (.int .i64 (given : Int)) := h.bk.cell _
        have z3' : w.drew.cell? ⟨r, 3, none⟩ = some (.slice (some ⟨g, 0, none⟩) came.length cc) := z3
        have z4' : w.drew.cell? ⟨r, 4, none⟩ = some (.int .i64 (given : Int)) := z4
        have HRA := Lib.hid (h.below (Below.drew (Below.refl _ _)))
        have HCP := Lib.hid (rd_cut (own_rdv HRA.out.ow) given (tz - given) (by omega))
        have eg : (⟨g, 0, none⟩ : Addr).add given = ⟨g, given, none⟩ := by simpa using addr_add g 0 given
        have HW := Lib.hid hwB
        go_wp2
        go_region_law ((try go_simp); go_at_call 26; refine (copyBytes_any (some ⟨g, given, none⟩) (tz - given) _ ((came.take tz).drop given) (by rw [List.length_drop, List.length_take]; omega) (by omega) _ (by have := HCP.out; rw [Nat.zero_add] at this; rw [List.drop_take]; exact this)).mono ?_; rintro e w4 ⟨u, rfl, ou, hb4⟩)
        all_goals have R4 := HRA.out.below hb4
        all_goals have v4 := R4.bk.frozen 4
        all_goals have v5 : w4.cell? ⟨r, 4, none⟩ = some (.int .i64 (given : Int)) := R4.bk.cell _
        all_goals have OUT := Lib.hid (show GivOut w0 w r (.slice A n c) (.slice A' m c') (.slice S sn sc) cv0 (.slice (some ⟨g, 0, none⟩) came.length cc) came s tz true tz (.returned u) (w4.setCell ⟨r, 4, none⟩ (.int .i64 (tz : Int))) from
          ⟨u, rfl, by rw [SO.out]; exact own_set_other (by rw [show ((came.take tz).drop given).length = tz - given by rw [List.length_drop, List.length_take]; omega]; exact own_base ou (show _ ≤ _ from HW.out.size)) r 4 _ (R4.bk.not_row (by decide) ou), R4.setGiven tz⟩)
        all_goals clear R4 ou hb4
        all_goals go_wp2
        all_goals (go_returns; exact OUT.out)
      | false =>
        have WR := Lib.hid (fun k => waits_ref (some ⟨g, 0, none⟩) S came.length cc sn sc came strs (w.drewN k) rfl hcc ((own_rdv h.ow).below (bdraw (Below.refl _ _) k)) hlen hS ((hst w h.kp).below (bdraw (Below.refl _ _) k)) hsn h16 hby)
        have hwl := waitsL_le (strs.map lst) (toU came)
        rw [toU_length] at hwl
        have HT := Lib.hid (show toR (strs.map lst) (toU came) false long = came.length - waitsL (strs.map lst) (toU came) by show (toU came).length - _ = _; rw [toU_length])
        rw [HT.out] at hgt htl SO ⊢
        clear HT
        generalize waitsL (strs.map lst) (toU came) = q at hgt htl SO hwl WR ⊢
        obtain ⟨tz, htz⟩ : ∃ tz, tz = came.length - q := ⟨_, rfl⟩
        rw [← htz] at hgt htl SO ⊢
        have g1 : (came.length : Int) - (q : Int) = (tz : Int) := by omega
        have k1 : (given : Int) ≤ (tz : Int) := by omega
        have k2 : (tz : Int) ≤ (cc : Int) := by omega
        have k3 : tz ≤ cc := by omega
        have k4 : (tz : Int) - (given : Int) = ((tz - given : Nat) : Int) := by omega
        clear htz
        have x3 : w.cell? ⟨r, 3, none⟩ = some (.slice (some ⟨g, 0, none⟩) came.length cc) := h.bk.cell _
        have x2 : w.cell? ⟨r, 2, none⟩ = some (.slice S sn sc) := h.bk.cell _
        have x3' : w.drew.cell? ⟨r, 3, none⟩ = some (.slice (some ⟨g, 0, none⟩) came.length cc) := x3
        have x2' : w.drew.cell? ⟨r, 2, none⟩ = some (.slice S sn sc) := x2
        go_enter Try.func55, Try.ntmps55
        go_wp2
        go_quiet ((go_at_call 64; exact Calls.quiet_of (WR.out _)))
        have hwB : Below w.heap.size w (w.drewN nq) := bdraw (Below.refl _ _) nq
        have R3 := h.below hwB
        clear x2 x3 x2' x3' x5 x6
        generalize w.drewN nq = w3 at *
        have z3 : w3.cell? ⟨r, 3, none⟩ = some (.slice (some ⟨g, 0, none⟩) came.length cc) := R3.bk.cell _
        have z4 : w3.cell? ⟨r, 4, none⟩ = some (.int .i64 (given : Int)) := R3.bk.cell _
        have z3' : w3.drew.cell? ⟨r, 3, none⟩ = some (.slice (some ⟨g, 0, none⟩) came.length cc) := z3
        have z4' : w3.drew.cell? ⟨r, 4, none⟩ = some (.int .i64 (given : Int)) := z4
        have HRA := Lib.hid (R3.below (Below.drew (Below.refl _ _)))
        have HCP := Lib.hid (rd_cut (own_rdv HRA.out.ow) given (tz - given) (by omega))
        have eg : (⟨g, 0, none⟩ : Addr).add given = ⟨g, given, none⟩ := by simpa using addr_add g 0 given
        have HW := Lib.hid hwB
        go_wp2
        go_region_law ((try go_simp); go_at_call 26; refine (copyBytes_any (some ⟨g, given, none⟩) (tz - given) _ ((came.take tz).drop given) (by rw [List.length_drop, List.length_take]; omega) (by omega) _ (by have := HCP.out; rw [Nat.zero_add] at this; rw [List.drop_take]; exact this)).mono ?_; rintro e w4 ⟨u, rfl, ou, hb4⟩)
        all_goals have R4 := HRA.out.below hb4
        all_goals have v4 := R4.bk.frozen 4
        all_goals have v5 : w4.cell? ⟨r, 4, none⟩ = some (.int .i64 (given : Int)) := R4.bk.cell _
        all_goals have OUT := Lib.hid (show GivOut w0 w r (.slice A n c) (.slice A' m c') (.slice S sn sc) cv0 (.slice (some ⟨g, 0, none⟩) came.length cc) came s tz false long (.returned u) (w4.setCell ⟨r, 4, none⟩ (.int .i64 (tz : Int))) from
          ⟨u, rfl, by rw [SO.out]; exact own_set_other (by rw [show ((came.take tz).drop given).length = tz - given by rw [List.length_drop, List.length_take]; omega]; exact own_base ou (show _ ≤ _ from HW.out.size)) r 4 _ (R4.bk.not_row (by decide) ou), R4.setGiven tz⟩)
        all_goals clear R4 ou hb4
        all_goals go_wp2
        all_goals (go_returns; exact OUT.out)
end Go.Proofs.Ytcambbnmeiolgaa
