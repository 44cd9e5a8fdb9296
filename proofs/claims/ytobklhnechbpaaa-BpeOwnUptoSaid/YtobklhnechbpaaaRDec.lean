import Derived.Test.YtobklhnechbpaaaDec
namespace Go.Proofs.Ytobklhnechbpaaa
open Go.RowKit

set_option maxRecDepth 100000 in
set_option maxHeartbeats 4000000 in
/-- augurref05.Decode -/
theorem refDecode_any (A A' T : Option Addr) (n m t c c' ct : Nat) (bs : List Int) (ps : List (Int × Int)) (l : List Int) (w : World) (hv : Voc w A A' n m bs ps) (hl : l.length = t) (ht : Rd w T (I64 l)) (hs : t ≤ 8388608) :
    Calls Try.prog 23 #[.agg #[.slice A n c, .slice A' m c'], .slice T t ct] w fun e w' => ∃ v, e = .returned (.tuple #[v, .int .i64 (errD bs ps l)]) ∧ w'.ownsRow w.heap.size 5 1 v (bytD bs ps l).length (B8 (bytD bs ps l)) ∧ Below w.heap.size w w' := by
  have h0 : Below w.heap.size w (w.alloc (.cells #[.slice A n c, .slice A' m c'] 25)) := by go_grown
  have q0 := Blk.new w #[.slice A n c, .slice A' m c'] 25
  go_enter Try.func23, Try.ntmps23
  go_wp2_with fail
  refine (refSize_any A A' n m c c' bs ps _ (hv.below h0)).mono ?_
  rintro e w1 ⟨rfl, hb⟩
  replace q0 := q0.below hb
  replace hb := bthen h0 hb
  clear h0
  cases hq : vocF bs ps with
  | none =>
    have he : errD bs ps l = 50 := by unfold errD; rw [hq]
    have hy : bytD bs ps l = [] := by unfold bytD; rw [hq]
    rw [szV_none hq]
    have HR := Lib.hid he
    have HY := Lib.hid hy
    clear he hq hy
    go_wp2
    go_returns
    refine ⟨.slice none 0 0, by rw [HR.out]; rfl, ?_, hb⟩
    rw [HY.out]
    exact World.ownsRow_nil _ _ _ _
  | some ls =>
    have hT := toks_of hq
    have h1 := hT.len
    have h2 := hT.n64
    obtain ⟨hlb, hnn⟩ : ls.length ≤ 64 ∧ 0 < ls.length := by omega
    have he : errD bs ps l = if l.all (okTok ls.length) then 0 else 52 := by unfold errD; rw [hq]
    have hy : bytD bs ps l = if l.all (okTok ls.length) then flat ls l else [] := by unfold bytD; rw [hq]
    rw [szV_some hq]
    have hz0 : ((ls.length : Int) == 0) = false := by rw [beq_eq_false_iff_ne]; omega
    clear hq h1 h2
    have HR := Lib.hid he
    have HY := Lib.hid hy
    clear he hy
    go_wp2
    go_loopw [7, 8] (fun ov i wr => ∃ k : Nat, k ≤ t ∧ i = .int .i64 (k : Int) ∧ (l.take k).all (okTok ls.length) = true ∧ wr.ownsRow w.heap.size 5 1 ov (flat ls (l.take k)).length (B8 (flat ls (l.take k))) ∧ Blk wr w.heap.size #[.slice A n c, .slice A' m c'] 25 ∧ Below w.heap.size w wr) (fun _ i _ => t - (intOf i).toNat)
    case atStart => exact ⟨0, by omega, rfl, rfl, World.ownsRow_nil _ _ _ _, q0, hb⟩
    case round =>
      clear q0 hb
      obtain ⟨k, hk, rfl, hall, oo, q0, hb⟩ := hrel
      obtain ⟨Ao, co, rfl, _, _⟩ := own_rd oo
      have AL := Lib.hid hall
      clear hall
      have x0 : wr.cell? ⟨w.heap.size, 0, none⟩ = some (.slice A n c) := q0.cell _
      have x1 : wr.cell? ⟨w.heap.size, 1, none⟩ = some (.slice A' m c') := q0.cell _
      by_cases hlt : k < t
      · obtain ⟨b, o, rfl, y1⟩ := (ht.below hb).i64 k (by omega)
        have ea := addr_add b o k
        have TK := Lib.hid (List.take_succ_eq_append_getElem (show k < l.length by omega))
        have hmem : l[k]'(by omega) ∈ l := List.getElem_mem _
        generalize l[k]'(by omega) = x at *
        by_cases hbad : x < 0 ∨ (ls.length : Int) ≤ x
        · have hr : ¬ (l.all (okTok ls.length) = true) := by
            intro h
            have := List.all_eq_true.1 h x hmem
            simp [okTok] at this
            omega
          have NR := Lib.hid hr
          clear hr hmem
          by_cases z : x < 0
          · clear hbad
            go_wp2
            go_returns
            refine ⟨.slice none 0 0, by rw [HR.out, if_neg NR.out]; rfl, ?_, hb⟩
            rw [HY.out, if_neg NR.out]
            exact World.ownsRow_nil _ _ _ _
          · have z2 : (ls.length : Int) ≤ x := by omega
            clear hbad
            go_wp2
            go_returns
            refine ⟨.slice none 0 0, by rw [HR.out, if_neg NR.out]; rfl, ?_, hb⟩
            rw [HY.out, if_neg NR.out]
            exact World.ownsRow_nil _ _ _ _
        · clear hmem
          obtain ⟨q, rfl⟩ : ∃ q : Nat, x = (q : Int) := ⟨x.toNat, by omega⟩
          have hq : q < ls.length := by omega
          have hx : okTok ls.length (q : Int) = true := by simp [okTok]; omega
          have HX := Lib.hid hx
          clear hbad hx
          have hfl := flat_small hT (l.take k)
          have hfl2 : (l.take k).length ≤ t := by simp; omega
          have FS := Lib.hid (flat_snoc ls (l.take k) (q : Int))
          go_wp2
          go_region_held3 (fun w' => w'.cell? ⟨w.heap.size, 0, none⟩ = some (.slice A n c) ∧ w'.cell? ⟨w.heap.size, 1, none⟩ = some (.slice A' m c') ∧ w'.cell? ⟨b, o + k, none⟩ = some (.int .i64 (q : Int)))
            (first | exact ⟨‹_›, ‹_›, ‹_›⟩ | exact ‹_›)
            (first | (go_at_call 42; refine (piece_any bs ps ls hT q hq A A' n m c c' _ (hv.below (Below.drew hb))).mono ?_; rintro e w2 ⟨vb, rfl, ob, hb2⟩; have q2 := Blk.below (Blk.drew q0) hb2; have z0 : w2.cell? ⟨w.heap.size, 0, none⟩ = some (.slice A n c) := q2.cell _; have z1 : w2.cell? ⟨w.heap.size, 1, none⟩ = some (.slice A' m c') := q2.cell _; have z2 : w2.cell? ⟨b, o + k, none⟩ = some (.int .i64 (q : Int)) := (hb2.cell (p := ⟨b, o + k, none⟩) (World.block_lt_of_cell? wr _ y1)).trans y1))
          all_goals
            have oo2 := own_below (w := wr.drew) oo hb2
            have ob2 : w2.ownsRow w.heap.size 5 1 vb (tok ls q).length (B8 (tok ls q)) := own_base ob (show w.heap.size ≤ wr.drew.heap.size from hb.size)
            obtain ⟨Ab, cb, rfl, _, _⟩ := own_rd ob2
            have hap : (Value.slice Ao (flat ls (l.take k)).length co).ownBlock = none ∨ (Value.slice Ao (flat ls (l.take k)).length co).ownBlock ≠ (Value.slice Ab (tok ls q).length cb).ownBlock := by
              cases h1 : (Value.slice Ao (flat ls (l.take k)).length co).ownBlock with
              | none => exact .inl rfl
              | some g =>
                refine .inr fun he => ?_
                have k1 := (own_lt oo g h1).2
                have k2 : wr.heap.size ≤ g := (own_lt ob g he.symm).1
                omega
            have hb3 := bthen (Below.drew hb) hb2
            clear oo ob q0 hb hb2 z0 z1 z2 x0 x1 y1
            have hsz : (tok ls q).length ≤ 16 := hT.small q
            have hpq : tok ls (q : Int).toNat = tok ls q := by rw [Int.toNat_natCast]
            have PQ := Lib.hid hpq
            clear hpq
            generalize tok ls q = lb at *
            generalize flat ls (l.take k) = F at *
            go_wp2
            go_loopw [7, 10] (fun ov i wr => ∃ j : Nat, j ≤ lb.length ∧ i = .int .i64 (j : Int) ∧ wr.ownsRow w.heap.size 5 1 ov (F.length + j) (B8 (F ++ lb.take j)) ∧ wr.ownsRow w.heap.size 5 1 (.slice Ab lb.length cb) lb.length (B8 lb) ∧ (ov.ownBlock = none ∨ ov.ownBlock ≠ (Value.slice Ab lb.length cb).ownBlock) ∧ Blk wr w.heap.size #[.slice A n c, .slice A' m c'] 25 ∧ Below w.heap.size w wr) (fun _ i _ => lb.length - (intOf i).toNat)
            case atStart => exact ⟨0, by omega, rfl, by simpa using oo2, ob2, hap, q2, hb3⟩
            case round =>
              clear oo2 ob2 hap hb3 q2
              obtain ⟨j, hj, rfl, oa, ob, hap, q0, hb⟩ := hrel
              obtain ⟨Ao, co, rfl, _, _⟩ := own_rd oa
              by_cases hlt : j < lb.length
              · obtain ⟨b', o', rfl, y1⟩ := (own_rdA ob).b8 j hlt
                have ea' := addr_add b' o' j
                have TJ := Lib.hid (List.take_succ_eq_append_getElem hlt)
                generalize lb[j] = x at *
                go_wp2_with (at_builtin; refine app (w0 := w) w.heap.size rfl _ _ 22 5 (.int .u8 0) 1 1 rfl Try.underlying22 info5 rfl (by decide) (by decide) (.slice Ao (F.length + j) co) (F.length + j) (B8 (F ++ lb.take j)) #[.int .u8 x] rfl rfl rfl (by simp [Value.oneCell']) oa hb hb.size (by omega) ?_; intro g cap w5 ow hb5 hg5 hat5)
                go_roundw
                case rel =>
                  refine ⟨j + 1, by omega, by go_num, ?_, World.ownsRow.kept ob hg5 ?_, ?_, Blk.kept q0 hg5 (Blk.not_row q0 (by decide) oa), hb5⟩
                  · rw [TJ.out, ← List.append_assoc, ← B8_snoc]
                    exact ow
                  · rcases apart_sym hap with h | h
                    · exact .inl h
                    · exact .inr fun he => h he.symm
                  · exact apart_app hap hat5 (fun q hq => (own_lt ob q hq).2)
                case measure => simp [intOf]; omega
              · obtain rfl : j = lb.length := by omega
                have htk : lb.take lb.length = lb := List.take_length
                have TT := Lib.hid htk
                clear htk
                go_wp2
                go_roundw
                case rel =>
                  refine ⟨k + 1, by omega, by go_num, ?_, ?_, q0, hb⟩
                  · rw [TK.out, List.all_append, AL.out]
                    simpa using HX.out
                  · rw [TK.out, FS.out, PQ.out, List.length_append]
                    have := oa
                    rw [TT.out] at this
                    exact this
                case measure => simp [intOf]; omega
      · obtain rfl : t = k := by omega
        have hr : l.all (okTok ls.length) = true := by
          have := AL.out
          rwa [List.take_of_length_le (by omega)] at this
        have hfe : flat ls (l.take t) = flat ls l := by rw [List.take_of_length_le (by omega)]
        generalize flat ls (l.take t) = F at *
        have FE := Lib.hid hfe
        have NR := Lib.hid hr
        clear hr hfe
        go_wp2
        go_returns
        refine ⟨_, by rw [HR.out, if_pos NR.out]; rfl, ?_, hb⟩
        rw [HY.out, if_pos NR.out, ← FE.out]
        exact oo
end Go.Proofs.Ytobklhnechbpaaa
