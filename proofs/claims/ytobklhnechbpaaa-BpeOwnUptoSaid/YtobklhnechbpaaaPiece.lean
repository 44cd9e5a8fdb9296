import Derived.Test.YtobklhnechbpaaaPlain
namespace Go.Proofs.Ytobklhnechbpaaa
open Go.RowKit

theorem apart_sym {x y : Value} (h : x.ownBlock = none ∨ x.ownBlock ≠ y.ownBlock) : y.ownBlock = none ∨ x.ownBlock ≠ y.ownBlock := by
  rcases h with h | h
  · cases hy : y.ownBlock with
    | none => exact .inl rfl
    | some q => exact .inr (by rw [h]; simp)
  · exact .inr h
theorem apart_app {x y : Value} {g n cap N : Nat} (h : x.ownBlock = none ∨ x.ownBlock ≠ y.ownBlock) (hat : some g = x.ownBlock ∨ g = N + 1) (hy : ∀ q, y.ownBlock = some q → q < N) : (Value.slice (some ⟨g, 0, none⟩) n cap).ownBlock = none ∨ (Value.slice (some ⟨g, 0, none⟩) n cap).ownBlock ≠ y.ownBlock := by
  refine .inr ?_
  show some g ≠ y.ownBlock
  intro he
  rcases hat with hat | rfl
  · rcases h with h | h
    · rw [h] at hat; cases hat
    · exact h (hat ▸ he)
  · have := hy _ he.symm
    omega
/-- a token's bytes -/
def tok (ls : List (List Int)) (i : Nat) : List Int := ls.getD i []

set_option maxRecDepth 100000 in
set_option maxHeartbeats 2000000 in
/-- augurref05.piece -/
theorem piece_any (bs : List Int) (ps : List (Int × Int)) (ls : List (List Int)) (hT : Toks bs ps ls) : ∀ (t : Nat), t < ls.length → ∀ (A A' : Option Addr) (n m c c' : Nat) (w : World), Voc w A A' n m bs ps →
    Calls Try.prog 42 #[.agg #[.slice A n c, .slice A' m c'], .int .i64 (t : Int)] w fun e w' => ∃ v, e = .returned v ∧ w'.ownsRow w.heap.size 5 1 v (tok ls t).length (B8 (tok ls t)) ∧ Below w.heap.size w w' := by
  intro t
  induction t using Nat.strongRecOn with
  | ind t ih =>
    intro ht A A' n m c c' w hv
    have h0 : Below w.heap.size w (w.alloc (.cells #[.slice A n c, .slice A' m c'] 25)) := by go_grown
    have q0 := Blk.new w #[.slice A n c, .slice A' m c'] 25
    have hn := hv.hn
    have hm := hv.hm
    by_cases z0 : t = 0
    · subst z0
      have hz : tok ls 0 = [] := hT.zero
      have HZ := Lib.hid hz
      clear hz
      go_enter Try.func42, Try.ntmps42
      go_wp2
      go_returns
      refine ⟨_, rfl, ?_, h0⟩
      rw [HZ.out]
      exact World.ownsRow_nil _ _ _ _
    · by_cases z1 : t ≤ n
      · obtain ⟨i, rfl⟩ : ∃ i, t = i + 1 := ⟨t - 1, by omega⟩
        have hz : tok ls (i + 1) = [bs[i]'(by omega)] := hT.base i (by omega)
        have HZ := Lib.hid hz
        clear hz
        obtain ⟨b, o, rfl, y1⟩ := (hv.below h0).hx.b8 i (by omega)
        have ea := addr_add b o i
        generalize bs[i]'(by omega) = x at *
        have hlt : i < n := by omega
        have hbd := hT.n48
        rw [hn] at hbd
        have hsub : ((i + 1 : Nat) : Int) = (i : Int) + 1 := by omega
        rw [hsub]
        go_enter Try.func42, Try.ntmps42
        go_wp2
        go_returns
        refine ⟨_, rfl, ?_, h0.alloc h0.size _⟩
        rw [HZ.out]
        have := World.ownsRow_lit (base := w.heap.size) (e := 5) (size := 1) (w.alloc (.cells #[.slice (some ⟨b, o, none⟩) n c, .slice A' m c'] 25)) #[.int .u8 x] 1 (by simp) (by unfold maxLen; omega) rfl
        simpa [B8] using this
      · obtain ⟨j, rfl⟩ : ∃ j, t = 1 + n + j := ⟨t - 1 - n, by omega⟩
        have hl := hT.len
        rw [hn, hm] at hl
        have hj : j < m := by omega
        have hP := hT.pair j (by omega)
        obtain ⟨b, o, rfl, y1, y2⟩ := (hv.below h0).hy.pr j (by omega)
        have ea := addr_add b o (j * 2)
        have ea1 : (⟨b, o + j * 2, none⟩ : Addr).add 1 = ⟨b, o + j * 2 + 1, none⟩ := addr_add b (o + j * 2) 1
        generalize ps[j]'(by omega) = x at *
        obtain ⟨xa, xb⟩ := x
        simp only at y1 y2 hP
        obtain ⟨p1, p2, p3, p4, p5⟩ := hP
        rw [hn] at p3 p4 p5
        obtain ⟨na, rfl⟩ : ∃ na : Nat, xa = (na : Int) := ⟨xa.toNat, by omega⟩
        obtain ⟨nb, rfl⟩ : ∃ nb : Nat, xb = (nb : Int) := ⟨xb.toNat, by omega⟩
        rw [Int.toNat_natCast, Int.toNat_natCast] at p5
        have p6 : tok ls (1 + n + j) = tok ls na ++ tok ls nb := p5
        have PQ := Lib.hid p6
        clear p5 p6
        have hbd := hT.n64
        rw [hn, hm] at hbd
        have hsub : ((1 + n + j : Nat) : Int) = 1 + (n : Int) + (j : Int) := by omega
        rw [hsub]
        have hsub2 : 1 + (n : Int) + (j : Int) - (n : Int) - 1 = (j : Int) := by omega
        have hsub3 : 1 + (n : Int) + (j : Int) - (n : Int) = (j : Int) + 1 := by omega
        go_enter Try.func42, Try.ntmps42
        go_wp2_with fail
        have h1 : Below w.heap.size w ((w.alloc (.cells #[.slice A n c, .slice (some ⟨b, o, none⟩) m c'] 25)).alloc (.cells #[.int .i64 (na : Int), .int .i64 (nb : Int)] 51)) := by go_grown
        have q1 := q0.alloc (.cells #[.int .i64 (na : Int), .int .i64 (nb : Int)] 51)
        have q2 := Blk.new (w.alloc (.cells #[.slice A n c, .slice (some ⟨b, o, none⟩) m c'] 25)) #[.int .i64 (na : Int), .int .i64 (nb : Int)] 51
        refine (ih na (by omega) (by omega) A _ n m c c' _ (hv.below h1)).mono ?_
        rintro e w2 ⟨va, rfl, oa, hb⟩
        replace q1 := q1.below hb
        replace q2 := q2.below hb
        have oa' := own_base (base' := w.heap.size) oa (by simp; omega)
        obtain ⟨Aa, ca, rfl, _, _⟩ := own_rd oa
        replace h1 := bthen h1 hb
        clear hb oa
        simp only [World.size_alloc] at q2
        have x0 : w2.cell? ⟨w.heap.size, 0, none⟩ = some (.slice A n c) := q1.cell _
        have x1 : w2.cell? ⟨w.heap.size, 1, none⟩ = some (.slice (some ⟨b, o, none⟩) m c') := q1.cell _
        have x2 : w2.cell? ⟨w.heap.size + 1, 0, none⟩ = some (.int .i64 (na : Int)) := q2.cell _
        have x3 : w2.cell? ⟨w.heap.size + 1, 1, none⟩ = some (.int .i64 (nb : Int)) := q2.cell _
        go_wp2_with fail
        refine (ih nb (by omega) (by omega) A _ n m c c' _ (hv.below h1)).mono ?_
        rintro e w3 ⟨vb, rfl, ob, hb⟩
        have oa3 := own_below oa' hb
        have ob3 := own_base (base' := w.heap.size) ob h1.size
        obtain ⟨Ab, cb, rfl, _, _⟩ := own_rd ob
        have hap : (Value.slice Aa (tok ls na).length ca).ownBlock = none ∨ (Value.slice Aa (tok ls na).length ca).ownBlock ≠ (Value.slice Ab (tok ls nb).length cb).ownBlock := by
          cases h1 : (Value.slice Aa (tok ls na).length ca).ownBlock with
          | none => exact .inl rfl
          | some g =>
            refine .inr fun he => ?_
            have k1 := (own_lt oa' g h1).2
            have k2 := (own_lt ob g he.symm).1
            omega
        replace h1 := bthen h1 hb
        clear hb oa' ob x0 x1 x2 x3 q1 q2
        have sa : (tok ls na).length ≤ 16 := hT.small na
        have sb : (tok ls nb).length ≤ 16 := hT.small nb
        generalize tok ls na = la at *
        generalize tok ls nb = lb at *
        go_wp2
        go_loopw [6, 8] (fun ov i wr => ∃ k : Nat, k ≤ lb.length ∧ i = .int .i64 (k : Int) ∧ wr.ownsRow w.heap.size 5 1 ov (la.length + k) (B8 (la ++ lb.take k)) ∧ wr.ownsRow w.heap.size 5 1 (.slice Ab lb.length cb) lb.length (B8 lb) ∧ (ov.ownBlock = none ∨ ov.ownBlock ≠ (Value.slice Ab lb.length cb).ownBlock) ∧ Below w.heap.size w wr) (fun _ i _ => lb.length - (intOf i).toNat)
        case atStart => exact ⟨0, by omega, rfl, by simpa using oa3, ob3, hap, h1⟩
        case round =>
          clear oa3 ob3 hap h1
          obtain ⟨k, hk, rfl, oa, ob, hap, hb⟩ := hrel
          obtain ⟨Ao, co, rfl, _, _⟩ := own_rd oa
          by_cases hlt : k < lb.length
          · obtain ⟨b', o', rfl, y1⟩ := (own_rdA ob).b8 k hlt
            have ea' := addr_add b' o' k
            have TK := Lib.hid (List.take_succ_eq_append_getElem hlt)
            generalize lb[k] = x at *
            go_wp2_with (at_builtin; refine app (w0 := w) w.heap.size rfl _ _ 22 5 (.int .u8 0) 1 1 rfl Try.underlying22 info5 rfl (by decide) (by decide) (.slice Ao (la.length + k) co) (la.length + k) (B8 (la ++ lb.take k)) #[.int .u8 x] rfl rfl rfl (by simp [Value.oneCell']) oa hb hb.size (by omega) ?_; intro g cap w5 ow hb5 hg5 hat5)
            go_roundw
            case rel =>
              refine ⟨k + 1, by omega, by go_num, ?_, World.ownsRow.kept ob hg5 ?_, ?_, hb5⟩
              · rw [TK.out, ← List.append_assoc, ← B8_snoc]
                exact ow
              · rcases apart_sym hap with h | h
                · exact .inl h
                · exact .inr fun he => h he.symm
              · exact apart_app hap hat5 (fun q hq => (own_lt ob q hq).2)
            case measure => simp [intOf]; omega
          · obtain rfl : k = lb.length := by omega
            go_wp2
            go_returns
            refine ⟨_, rfl, ?_, hb⟩
            rw [PQ.out, List.length_append]
            simpa using oa
end Go.Proofs.Ytobklhnechbpaaa
