import Derived.Test.YtcambbnmeiolgaaFedV
namespace Go.Proofs.Ytcambbnmeiolgaa
open Go.RowKit
set_option maxRecDepth 100000 in
set_option maxHeartbeats 1000000 in
/-- join -/
theorem join_any (w : World) (base : Nat) (v : Value) (nb : Nat) (bs : List Int) (U : Option Addr) (un uc : Nat) (cs : List Int) (hv : w.ownsRow base 5 1 v nb (B8 bs)) (hbase : base ≤ w.heap.size) (hu : cs.length = un) (ru : Rd w U (B8 cs)) (hne : ∀ b o, U = some ⟨b, o, none⟩ → 0 < un → v.ownBlock ≠ some b) (hs : nb + un ≤ 70368744177664) :
    Calls Try.prog 19 #[v, .slice U un uc] w fun e w' => ∃ v', e = .returned v' ∧ w'.ownsRow base 5 1 v' (nb + un) (B8 (bs ++ cs)) ∧ w.grownBy w' v.ownBlock ∧ (v'.ownBlock = v.ownBlock ∨ ∀ q, v'.ownBlock = some q → w.heap.size ≤ q) := by
  have hv0 := hv
  obtain ⟨A0, c0, rfl, _, _⟩ := own_rd hv0
  have RU := Lib.hid ru
  have NE := Lib.hid hne
  clear hv0 ru hne
  go_enter Try.func19, Try.ntmps19
  go_wp2
  go_loopw [0, 5] (fun mv i wr => ∃ k : Nat, k ≤ un ∧ i = .int .i64 (k : Int) ∧ wr.ownsRow base 5 1 mv (nb + k) (B8 (bs ++ cs.take k)) ∧ w.grownBy wr (Value.slice A0 nb c0).ownBlock ∧ (mv.ownBlock = (Value.slice A0 nb c0).ownBlock ∨ ∀ q, mv.ownBlock = some q → w.heap.size ≤ q)) (fun _ i _ => un - (intOf i).toNat)
  case atStart => exact ⟨0, by omega, rfl, by simpa using hv, World.grownBy.refl w _, .inl rfl⟩
  case round =>
    obtain ⟨k, hk, rfl, oo, hg, hor⟩ := hrel
    obtain ⟨Ao, co, rfl, _, _⟩ := own_rd oo
    have HG := Lib.hid hg
    have OR := Lib.hid hor
    have hws := hg.size
    clear hg hor hv
    by_cases hlt : k < un
    · have g1 : (k : Int) < (un : Int) := by omega
      obtain ⟨b, o, hU, y0⟩ : ∃ b o, U = some ⟨b, o, none⟩ ∧ w.cell? ⟨b, o + k, none⟩ = some (.int .u8 (cs[k]'(by omega))) := by
        rcases RU.out with h | ⟨b, o, h1, h2⟩
        · have := congrArg List.length h; simp [B8] at this; subst this; simp at hu; omega
        · refine ⟨b, o, h1, ?_⟩
          rw [h2 k (by simp [B8]; omega)]
          simp [B8, List.getElem?_eq_getElem (show k < cs.length by omega)]
      have hbp := NE.out b o hU (by omega)
      have y1 : wr.cell? ⟨b, o + k, none⟩ = _ := (World.cell?_of_block (HG.out.block b (World.block_lt_of_cell? w _ y0) (fun he => hbp he.symm))).trans y0
      have ea := addr_add b o k
      have TK := Lib.hid (List.take_succ_eq_append_getElem (show k < cs.length by omega))
      subst hU
      clear y0
      generalize cs[k]'(by omega) = x at *
      go_wp2_with (at_builtin; refine app (w0 := wr) base rfl _ _ 34 5 (.int .u8 0) 1 1 rfl Try.underlying34 info5 rfl (by decide) (by decide) (.slice Ao (nb + k) co) (nb + k) (B8 (bs ++ cs.take k)) #[.int .u8 x] rfl rfl rfl (by simp [Value.oneCell']) oo (Below.refl base wr) (by omega) (by omega) ?_; intro g cap w3 ow hb3 hg3 hat)
      go_roundw
      case rel =>
        refine ⟨k + 1, by omega, by go_num, ?_, grown_step HG.out hg3 OR.out, ?_⟩
        · rw [TK.out, ← List.append_assoc]
          have e : B8 (bs ++ cs.take k ++ [x]) = B8 (bs ++ cs.take k) ++ [.int .u8 x] := by simp [B8]
          rw [e]
          exact ow
        · rcases hat with h | h
          · rcases OR.out with h2 | h2
            · exact .inl (h.trans h2)
            · exact .inr (fun q hq => h2 q (h.symm.trans hq))
          · exact .inr (fun q hq => by have h3 : q = g := by simp [Value.ownBlock] at hq; omega
                                       have h4 := HG.out.size; omega)
      case measure => simp [intOf]; omega
    · obtain rfl : k = un := by omega
      have hF : cs.take k = cs := List.take_of_length_le (by omega)
      rw [hF] at oo
      clear hF
      go_wp2
      go_returns
      exact ⟨_, rfl, oo, HG.out, OR.out⟩
end Go.Proofs.Ytcambbnmeiolgaa
