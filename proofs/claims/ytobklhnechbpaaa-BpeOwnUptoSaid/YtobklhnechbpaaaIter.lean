import Derived.Test.YtobklhnechbpaaaRange
import Derived.RangeFuncBound
import Derived.Shelf.Abstract
import Derived.Shelf.RegionOpen
import Derived.OwnWalkIn
import Derived.TacticsInMore
import Derived.LoopNIn
import Derived.LoopIn
namespace Go.Proofs.Ytobklhnechbpaaa
open Go.RowKit Go.Shelf
attribute [local go_sem] Oper.semAt_some

/-- the tokens' bytes -/
def toks (bs : List Int) (ps : List (Int × Int)) : List (List Int) := (vocF bs ps).getD []
/-- round k: its number and its bytes, in memory that the iterator has laid -/
def Gives (B : Nat) (ls : List (List Int)) (k : Nat) (args : Array Value) (W : World) : Prop := ∃ v, args = #[.int .i64 (k : Int), v] ∧ W.ownsRow B 5 1 v (tok ls k).length (B8 (tok ls k))

theorem own_upc {B : Nat} {w w' : World} {e : TypeId} {size n : Nat} {v : Value} {xs : List Value} (h : w.ownsRow B e size v n xs) (hs : UpC B w w') : w'.ownsRow B e size v n xs := by
  refine ⟨h.1, ?_⟩
  rcases h.2 with h | ⟨g, cap, cur, h1, h2, h3, h4⟩
  · exact .inl h
  · exact .inr ⟨g, cap, cur, h1, h2, (hs.rows g _ _ _ h2 h3).trans h3, h4⟩
theorem Pcs.upc {w w1 : World} {base : Nat} {vals : List Value} {ls : List (List Int)} (h : Pcs w base vals ls) (hs : UpC base w w1) : Pcs w1 base vals ls :=
  ⟨h.len, fun i v l hv hl => own_upc (h.own i v l hv hl) hs, h.apart⟩
theorem Pcs.base {w : World} {base base' : Nat} {vals : List Value} {ls : List (List Int)} (h : Pcs w base vals ls) (hle : base' ≤ base) : Pcs w base' vals ls :=
  ⟨h.len, fun i v l hv hl => own_base (h.own i v l hv hl) hle, h.apart⟩

set_option maxRecDepth 100000 in
set_option maxHeartbeats 2000000 in
/-- the iterator of bpe.All -/
theorem all_iter (A A' : Option Addr) (n m c c' : Nat) (bs : List Int) (ps : List (Int × Int)) (B b nf : Nat) (w : World) (hv : Voc w A A' n m bs ps) (hwf : Wf bs ps) (hbx : Blk w b #[.slice A n c, .slice A' m c'] 25) (hn : 1 ≤ nf) :
    Iter Try.prog B 41 #[.pointer (some ⟨b, 0, none⟩)] (Gives B (toks bs ps)) (toks bs ps).length nf w := by
  intro l J Jx W hW hB hJ hY h0
  replace hv := hv.below hW
  have q0 := hbx.below hW
  refine callsIn_of_wp Try.func41 rfl trivial ?_ rfl
  simp only [Try.ntmps41, List.size_toArray, List.length_cons, List.length_nil, Nat.reduceAdd, Nat.reduceSub, Array.replicate_succ, Array.replicate_zero, List.push_toArray, List.append_toArray, List.nil_append, List.cons_append]
  have x0 : W.cell? ⟨b, 0, none⟩ = some (.slice A n c) := q0.cell _
  have x1 : W.cell? ⟨b, 1, none⟩ = some (.slice A' m c') := q0.cell _
  gi_wp2_with fail
  refine ⟨trivial, ?_⟩
  refine (callsIn_wide.2 (pieces_any A A' n m c c' bs ps W hv hwf)).mono ?_
  rintro e w1 ⟨hb, hp⟩
  clear x0 x1 q0
  cases hq : vocF bs ps with
  | none =>
    have ht : toks bs ps = [] := by unfold toks; rw [hq]; rfl
    rw [hq] at hp
    subst hp
    have HT := Lib.hid ht
    rw [ht] at hY
    have h1 := hJ 0 _ _ h0 hb
    clear ht hq
    gi_wp2
    gi_loopw [8] (fun i wr => i = .int .i64 0 ∧ J 0 wr) (fun i _ => 1)
    case atStart => exact ⟨rfl, h1⟩
    case round =>
      obtain ⟨rfl, h2⟩ := hrel
      gi_wp2
      go_end0
      exact ⟨⟨_, rfl⟩, .inl (by rw [HT.out]; exact h2)⟩
  | some ls =>
    have ht : toks bs ps = ls := by unfold toks; rw [hq]; rfl
    have hT := toks_of hq
    have h1 := hT.len
    have h2 := hT.n64
    have hlb : ls.length ≤ 64 := by omega
    rw [hq] at hp
    obtain ⟨g, cap, vals, rfl, ho, hp⟩ := hp
    have HT := Lib.hid ht
    rw [ht] at hY
    have h3 := hJ 0 _ _ h0 hb
    clear ht hq h1 h2
    replace ho := own_base (base' := B) ho hB
    replace hp := hp.base (base' := B) hB
    gi_wp2
    gi_loopw [8] (fun i wr => ∃ k : Nat, k ≤ ls.length ∧ i = .int .i64 (k : Int) ∧ J k wr ∧ wr.ownsRow B 22 1 (.slice (some ⟨g, 0, none⟩) ls.length cap) ls.length vals ∧ Pcs wr B vals ls) (fun i _ => ls.length - (intOf i).toNat)
    case atStart => exact ⟨0, by omega, rfl, h3, ho, hp⟩
    case round =>
      clear h3 ho hp
      obtain ⟨k, hk, rfl, hj, ho, hp⟩ := hrel
      by_cases hlt : k < ls.length
      · obtain ⟨v, hv1, ov⟩ := hp.get k hlt
        have c3 := own_cell ho k _ hv1
        have ea2 : (⟨g, 0, none⟩ : Addr).add k = ⟨g, k, none⟩ := by simpa using addr_add g 0 k
        have ov' : wr.ownsRow B 5 1 v (tok ls k).length (B8 (tok ls k)) := ov
        obtain ⟨va, vc, rfl, _, _⟩ := own_rd ov'
        clear ov
        have ov := ov'
        obtain ⟨fn, tmps, assign, body, hy, hR⟩ := hY k _ wr hj hlt ⟨_, rfl, ov⟩
        gi_wp2
        refine hR.mono ?_
        rintro e W3 (⟨rfl, hj3, hk3⟩ | ⟨rfl, hx3⟩)
        · gi_wp2
          go_roundw
          case rel => exact ⟨k + 1, by omega, by go_num, hj3, own_upc ho hk3, hp.upc hk3⟩
          case measure => simp [intOf]; omega
        · gi_wp2
          refine bodyPost_ret (results_none rfl _ _ _) rfl ?_
          exact ⟨⟨_, rfl⟩, .inr ⟨k + 1, by rw [HT.out]; omega, hx3⟩⟩
      · obtain rfl : k = ls.length := by omega
        gi_wp2
        go_end0
        exact ⟨⟨_, rfl⟩, .inl (by rw [HT.out]; exact hj)⟩
end Go.Proofs.Ytobklhnechbpaaa
