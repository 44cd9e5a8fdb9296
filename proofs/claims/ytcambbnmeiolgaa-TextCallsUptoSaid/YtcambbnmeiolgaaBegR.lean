import Derived.Test.YtcambbnmeiolgaaUtfP
namespace Go.Proofs.Ytcambbnmeiolgaa
open Go.RowKit
/-! A rune's beginning, as the document has it -/
def btw (x : UInt8) (lo hi : Nat) : Prop := lo ≤ x.toNat ∧ x.toNat ≤ hi
instance (x : UInt8) (lo hi : Nat) : Decidable (btw x lo hi) := by unfold btw; infer_instance
def secR (a b : UInt8) : Prop := if a.toNat = 0xe0 then btw b 0xa0 0xbf else if a.toNat = 0xed then btw b 0x80 0x9f else if a.toNat = 0xf0 then btw b 0x90 0xbf else if a.toNat = 0xf4 then btw b 0x80 0x8f else btw b 0x80 0xbf
instance (a b : UInt8) : Decidable (secR a b) := by unfold secR; infer_instance
def widR (a : UInt8) : Nat := if btw a 0xc2 0xdf then 2 else if btw a 0xe0 0xef then 3 else if btw a 0xf0 0xf4 then 4 else 0
def BegR : List UInt8 → Prop
  | [] => False
  | a :: t => t.length + 1 < widR a ∧ (∀ x ∈ t, btw x 0x80 0xbf) ∧ ∀ b, t.head? = some b → secR a b
theorem u8_of {a : UInt8} {n : Nat} (h : n = a.toNat) : UInt8.ofNat n = a := (u8_eq h.symm).symm
theorem begR_beg {l : List UInt8} (h : BegR l) : ∃ c y, okC c ∧ y ≠ [] ∧ encN c = l ++ y := by
  cases l with
  | nil => exact absurd h (by simp [BegR])
  | cons a t =>
    obtain ⟨hn, hc, hs⟩ := h
    have ha := lt256 a
    unfold widR at hn
    split at hn
    · rename_i h2
      unfold btw at h2
      have ht : t = [] := List.length_eq_zero_iff.1 (by omega)
      subst ht
      refine ⟨(a.toNat - 0xC0) * 64, [UInt8.ofNat 128], by unfold okC; omega, by simp, ?_⟩
      rw [encN2 (by omega) (by omega)]
      simp only [List.cons_append, List.nil_append, List.cons.injEq, and_true]
      exact ⟨u8_of (by omega), u8n (by omega)⟩
    · split at hn
      · rename_i h2
        unfold btw at h2
        match t, hn, hc, hs with
        | [], _, _, _ =>
          by_cases he : a.toNat = 0xe0
          · refine ⟨0x800, [UInt8.ofNat 0xa0, UInt8.ofNat 0x80], by unfold okC; omega, by simp, ?_⟩
            rw [show a = UInt8.ofNat 0xe0 from (u8_of he.symm).symm]
            rfl
          · refine ⟨(a.toNat - 0xe0) * 4096, [UInt8.ofNat 0x80, UInt8.ofNat 0x80], by unfold okC; omega, by simp, ?_⟩
            rw [encN3 (by omega) (by omega)]
            simp only [List.cons_append, List.nil_append, List.cons.injEq, and_true]
            exact ⟨u8_of (by omega), u8n (by omega), u8n (by omega)⟩
        | [b], _, hc, hs =>
          have hb := hc b (by simp)
          have hs := hs b rfl
          unfold btw at hb
          unfold secR btw at hs
          have hc1 : 0x800 ≤ (a.toNat - 0xe0) * 4096 + (b.toNat - 0x80) * 64 ∧ okC ((a.toNat - 0xe0) * 4096 + (b.toNat - 0x80) * 64) := by
            unfold okC
            (repeat' split at hs) <;> omega
          refine ⟨(a.toNat - 0xe0) * 4096 + (b.toNat - 0x80) * 64, [UInt8.ofNat 0x80], hc1.2, by simp, ?_⟩
          rw [encN3 (by omega) (by omega)]
          simp only [List.cons_append, List.nil_append, List.cons.injEq, and_true]
          exact ⟨u8_of (by omega), u8_of (by omega), u8n (by omega)⟩
        | _ :: _ :: _, hn, _, _ => simp only [List.length_cons] at hn; omega
      · split at hn
        · rename_i h2
          unfold btw at h2
          match t, hn, hc, hs with
          | [], _, _, _ =>
            by_cases he : a.toNat = 0xf0
            · refine ⟨0x10000, [UInt8.ofNat 0x90, UInt8.ofNat 0x80, UInt8.ofNat 0x80], by unfold okC; omega, by simp, ?_⟩
              rw [show a = UInt8.ofNat 0xf0 from (u8_of he.symm).symm]
              rfl
            · refine ⟨(a.toNat - 0xf0) * 262144, [UInt8.ofNat 0x80, UInt8.ofNat 0x80, UInt8.ofNat 0x80], by unfold okC; omega, by simp, ?_⟩
              rw [encN4 (by omega)]
              simp only [List.cons_append, List.nil_append, List.cons.injEq, and_true]
              exact ⟨u8_of (by omega), u8n (by omega), u8n (by omega), u8n (by omega)⟩
          | [b], _, hc, hs =>
            have hb := hc b (by simp)
            have hs := hs b rfl
            unfold btw at hb
            unfold secR btw at hs
            have hc1 : 0x10000 ≤ (a.toNat - 0xf0) * 262144 + (b.toNat - 0x80) * 4096 ∧ okC ((a.toNat - 0xf0) * 262144 + (b.toNat - 0x80) * 4096) := by
              unfold okC
              (repeat' split at hs) <;> omega
            refine ⟨(a.toNat - 0xf0) * 262144 + (b.toNat - 0x80) * 4096, [UInt8.ofNat 0x80, UInt8.ofNat 0x80], hc1.2, by simp, ?_⟩
            rw [encN4 (by omega)]
            simp only [List.cons_append, List.nil_append, List.cons.injEq, and_true]
            exact ⟨u8_of (by omega), u8_of (by omega), u8n (by omega), u8n (by omega)⟩
          | [b, d], _, hc, hs =>
            have hb := hc b (by simp)
            have hd := hc d (by simp)
            have hs := hs b rfl
            unfold btw at hb hd
            unfold secR btw at hs
            have hc1 : 0x10000 ≤ (a.toNat - 0xf0) * 262144 + (b.toNat - 0x80) * 4096 + (d.toNat - 0x80) * 64 ∧ okC ((a.toNat - 0xf0) * 262144 + (b.toNat - 0x80) * 4096 + (d.toNat - 0x80) * 64) := by
              unfold okC
              (repeat' split at hs) <;> omega
            refine ⟨(a.toNat - 0xf0) * 262144 + (b.toNat - 0x80) * 4096 + (d.toNat - 0x80) * 64, [UInt8.ofNat 0x80], hc1.2, by simp, ?_⟩
            rw [encN4 (by omega)]
            simp only [List.cons_append, List.nil_append, List.cons.injEq, and_true]
            exact ⟨u8_of (by omega), u8_of (by omega), u8_of (by omega), u8n (by omega)⟩
          | _ :: _ :: _ :: _, hn, _, _ => simp only [List.length_cons] at hn; omega
        · omega
theorem beg_begR {l y : List UInt8} {c : Nat} (hc : okC c) (hl : l ≠ []) (hy : y ≠ []) (he : encN c = l ++ y) : BegR l := by
  have hyl := List.length_pos_iff.2 hy
  cases l with
  | nil => exact absurd rfl hl
  | cons a t =>
    obtain ⟨a', t', h1, _, h3⟩ := enc_first hc
    have hlen := congrArg List.length he
    rw [he] at h1
    simp only [List.cons_append, List.cons.injEq] at h1
    obtain ⟨rfl, rfl⟩ := h1
    unfold okC at hc
    have hcont : ∀ x ∈ t, btw x 0x80 0xbf := fun x hx => by
      have := h3 x (List.mem_append_left _ hx)
      unfold contB at this
      unfold btw
      omega
    refine ⟨?_, hcont, ?_⟩
    · simp only [List.length_append, List.length_cons] at hlen
      by_cases c1 : c < 0x80
      · unfold encN at he hlen
        rw [if_pos c1] at hlen
        simp at hlen
        omega
      · by_cases c2 : c < 0x800
        · rw [encN2 (by omega) c2] at he hlen
          simp only [List.cons_append, List.cons.injEq] at he
          have ha := congrArg UInt8.toNat he.1
          rw [ofN (by omega)] at ha
          simp only [List.length_cons, List.length_nil] at hlen
          rw [show widR a = 2 by unfold widR; rw [if_pos (show btw a 0xc2 0xdf from ⟨by omega, by omega⟩)]]
          omega
        · by_cases c3 : c < 0x10000
          · rw [encN3 (by omega) c3] at he hlen
            simp only [List.cons_append, List.cons.injEq] at he
            have ha := congrArg UInt8.toNat he.1
            rw [ofN (by omega)] at ha
            simp only [List.length_cons, List.length_nil] at hlen
            rw [show widR a = 3 by unfold widR; rw [if_neg (fun h : btw a 0xc2 0xdf => by unfold btw at h; omega), if_pos (show btw a 0xe0 0xef from ⟨by omega, by omega⟩)]]
            omega
          · rw [encN4 (by omega)] at he hlen
            simp only [List.cons_append, List.cons.injEq] at he
            have ha := congrArg UInt8.toNat he.1
            rw [ofN (by omega)] at ha
            simp only [List.length_cons, List.length_nil] at hlen
            rw [show widR a = 4 by unfold widR; rw [if_neg (fun h : btw a 0xc2 0xdf => by unfold btw at h; omega), if_neg (fun h : btw a 0xe0 0xef => by unfold btw at h; omega), if_pos (show btw a 0xf0 0xf4 from ⟨by omega, by omega⟩)]]
            omega
    · intro b hb
      cases t with
      | nil => cases hb
      | cons b' t =>
        simp only [List.head?_cons, Option.some.injEq] at hb
        subst hb
        have hbb := hcont b' (by simp)
        unfold btw at hbb
        by_cases c2 : c < 0x800
        · by_cases c1 : c < 0x80
          · unfold encN at hlen; rw [if_pos c1] at hlen; simp only [List.length_append, List.length_cons, List.length_nil] at hlen; omega
          · rw [encN2 (by omega) c2] at hlen; simp only [List.length_append, List.length_cons, List.length_nil] at hlen; omega
        · by_cases c3 : c < 0x10000
          · rw [encN3 (by omega) c3] at he
            simp only [List.cons_append, List.cons.injEq] at he
            have ha := congrArg UInt8.toNat he.1
            have hbt := congrArg UInt8.toNat he.2.1
            rw [ofN (by omega)] at ha hbt
            unfold secR btw
            (repeat' split) <;> omega
          · rw [encN4 (by omega)] at he
            simp only [List.cons_append, List.cons.injEq] at he
            have ha := congrArg UInt8.toNat he.1
            have hbt := congrArg UInt8.toNat he.2.1
            rw [ofN (by omega)] at ha hbt
            unfold secR btw
            (repeat' split) <;> omega
/-- the two ways to say it are one -/
theorem begL_begR {l : List UInt8} (hl : l ≠ []) : begL l = true ↔ BegR l := by
  constructor
  · intro h
    obtain ⟨c, y, hc, hy, he⟩ := begL_some hl h
    exact beg_begR hc hl hy he
  · intro h
    obtain ⟨c, y, hc, hy, he⟩ := begR_beg h
    exact begL_part hc he hl hy
end Go.Proofs.Ytcambbnmeiolgaa
