import Derived.Test.YtobklhnechbpaaaDup
namespace Go.Proofs.Ytobklhnechbpaaa
open Go.RowKit

/-- how long each token is, as an array of 64 numbers -/
def szA (out : List (List Int)) : Array Value := ((List.range 64).map fun i => Value.int .i64 ((out.getD i []).length : Int)).toArray
theorem szA_get (out : List (List Int)) (i : Nat) (h : i < 64) : (szA out)[i]? = some (.int .i64 ((out.getD i []).length : Int)) := by simp [szA, h]
theorem szA_size (out : List (List Int)) : (szA out).size = 64 := by simp [szA]
theorem szA_snoc (out : List (List Int)) (l : List Int) : (szA out).setIfInBounds out.length (.int .i64 (l.length : Int)) = szA (out ++ [l]) := by
  apply Array.ext_getElem?
  intro i
  rcases Nat.lt_or_ge i 64 with h | h
  · rw [szA_get _ i h, Array.getElem?_setIfInBounds]
    split
    · rename_i he
      subst he
      rw [if_pos (by rw [szA_size]; exact h)]
      simp [List.getD_eq_getElem?_getD]
    · rename_i he
      rw [szA_get _ i h]
      rcases Nat.lt_or_ge i out.length with h3 | h3
      · simp [List.getD_eq_getElem?_getD, List.getElem?_append_left h3]
      · have h4 : out.length + 1 ≤ i := by omega
        simp [List.getD_eq_getElem?_getD, List.getElem?_eq_none h3, List.getElem?_eq_none (show (out ++ [l]).length ≤ i by simpa using h4)]
  · rw [Array.getElem?_eq_none (by rw [Array.size_setIfInBounds, szA_size]; exact h), Array.getElem?_eq_none (by rw [szA_size]; exact h)]
theorem base0_take (bs : List Int) (k : Nat) (h : k < bs.length) : base0 (bs.take (k + 1)) = base0 (bs.take k) ++ [[bs[k]]] := by
  rw [List.take_succ_eq_append_getElem h]
  simp only [base0, List.map_append, List.map_cons, List.map_nil, List.cons_append]
theorem ret_int {a b : Int} (h : a = b) : Ending.returned (.int .i64 a) = .returned (.int .i64 b) := by rw [h]
/-- the error of a vocabulary -/
def errV (bs : List Int) (ps : List (Int × Int)) : Int := if (vocF bs ps).isSome then 0 else 50

set_option maxRecDepth 100000 in
set_option maxHeartbeats 2000000 in
/-- augurref05.Check -/
theorem refCheck_any (A A' : Option Addr) (n m c c' : Nat) (bs : List Int) (ps : List (Int × Int)) (w : World) (hv : Voc w A A' n m bs ps) :
    Calls Try.prog 14 #[.agg #[.slice A n c, .slice A' m c']] w fun e w' => e = .returned (.int .i64 (errV bs ps)) ∧ Below w.heap.size w w' := by
  have h0 : Below w.heap.size w (w.alloc (.cells #[.slice A n c, .slice A' m c'] 25)) := by go_grown
  have q0 := Blk.new w #[.slice A n c, .slice A' m c'] 25
  have g := hv.below h0
  have hv0 := hv
  obtain ⟨hn, hm, b1, b2, _, _⟩ := hv
  by_cases hfit : fits n m
  · obtain ⟨f1, f2, f3⟩ := hfit
    go_enter Try.func14, Try.ntmps14
    go_wp2
    generalize w.alloc (.cells #[.slice A n c, .slice A' m c'] 25) = w1 at *
    go_loopw [3] (fun i wr => ∃ k : Nat, k ≤ n ∧ i = .int .i64 k ∧ (bs.take k).Nodup ∧ Below w1.heap.size w1 wr) (fun i _ => n - (intOf i).toNat)
    case atStart => exact ⟨0, by omega, rfl, by simp, Below.refl _ _⟩
    case round =>
      obtain ⟨k, hk, rfl, he, hb⟩ := hrel
      have HE := Lib.hid he
      clear he
      have x0 : wr.cell? ⟨w.heap.size, 0, none⟩ = some (.slice A n c) := (q0.below hb).cell _
      have x1 : wr.cell? ⟨w.heap.size, 1, none⟩ = some (.slice A' m c') := (q0.below hb).cell _
      by_cases hlt : k < n
      · go_wp2_with fail
        refine (twiceByte_any A A' n m c c' k bs ps wr (g.below hb) hlt).mono ?_
        rintro e w2 ⟨he, hb2⟩
        by_cases hd : dupAt bs k = true
        · rw [hd] at he
          subst he
          have hr : errV bs ps = 50 := by
            unfold errV vocF
            have hmem : bs[k]'(by omega) ∈ bs.take k := by
              unfold dupAt at hd
              rw [List.getElem?_eq_getElem (by omega)] at hd
              simpa using hd
            rw [if_neg (not_nodup_take bs k (by omega) hmem)]
            split <;> rfl
          have HR := Lib.hid hr
          clear hr hd
          go_wp2
          go_returns
          exact ⟨by rw [HR.out]; rfl, bthen h0 (bthen hb hb2)⟩
        · have hd' : dupAt bs k = false := by simpa using hd
          rw [hd'] at he
          subst he
          have hnd : (bs.take (k + 1)).Nodup := by
            rw [nodup_take bs k (by omega)]
            refine ⟨HE.out, ?_⟩
            unfold dupAt at hd'
            rw [List.getElem?_eq_getElem (by omega)] at hd'
            simpa using hd'
          have HN := Lib.hid hnd
          clear hnd hd hd'
          go_wp2
          go_roundw
          case rel => exact ⟨k + 1, by omega, by go_num, HN.out, bthen hb hb2⟩
          case measure => simp [intOf]; omega
      · have hnd : bs.Nodup := by
          have := HE.out
          rwa [List.take_of_length_le (by omega)] at this
        have hvf : vocF bs ps = build [] ps (base0 bs) := by
          unfold vocF
          rw [hn, hm, if_pos ⟨f1, f2, f3⟩, if_pos hnd]
        have HV := Lib.hid hvf
        have hbw : Below w.heap.size w wr := bthen h0 hb
        replace g := g.below hb
        replace q0 := q0.below hb
        clear hnd hvf h0 HE
        go_wp2
        generalize hw2 : wr.alloc _ = w2
        have qD : Blk w2 wr.heap.size (szA [[]]) 60 := by rw [← hw2]; exact Blk.new wr _ 60
        have hb2 : Below wr.heap.size wr w2 := by rw [← hw2]; go_grown
        have hD : w.heap.size < wr.heap.size := q0.lt
        have hbD : Below w.heap.size w w2 := bthen hbw hb2
        have q2 := q0.below hb2
        have hlD : wr.heap.size < w2.heap.size := qD.lt
        generalize wr.heap.size = D at *
        clear hw2 hb2 hbw hb g q0 x0 x1
        go_loopw [6] (fun i wr => ∃ k : Nat, k ≤ n ∧ i = .int .i64 ((k : Int) + 1) ∧ Blk wr D (szA (base0 (bs.take k))) 60 ∧ Blk wr w.heap.size #[.slice A n c, .slice A' m c'] 25 ∧ Below w.heap.size w wr) (fun i _ => n + 1 - (intOf i).toNat)
        case atStart => exact ⟨0, by omega, rfl, qD, q2, hbD⟩
        case round =>
          obtain ⟨k, hk, rfl, p0, p1, hb⟩ := hrel
          have x0 : wr.cell? ⟨w.heap.size, 0, none⟩ = some (.slice A n c) := p1.cell _
          have x1 : wr.cell? ⟨w.heap.size, 1, none⟩ = some (.slice A' m c') := p1.cell _
          by_cases hlt : k < n
          · have y0 : wr.cell? ⟨D, k + 1, none⟩ = some (.int .i64 (((base0 (bs.take k)).getD (k + 1) []).length : Int)) := by rw [p0.cell, szA_get _ _ (by omega)]
            have y1 := p0.frozen (k + 1)
            have ea : (⟨D, 0, none⟩ : Addr).add (k + 1) = ⟨D, k + 1, none⟩ := by simpa using addr_add D 0 (k + 1)
            generalize (((base0 (bs.take k)).getD (k + 1) []).length : Int) = z at y0
            go_wp2
            go_roundw
            case rel =>
              have p0' := p0.set (k + 1) (.int .i64 1)
              have e1 : (szA (base0 (bs.take k))).setIfInBounds (k + 1) (.int .i64 1) = szA (base0 (bs.take (k + 1))) := by
                rw [base0_take bs k (by omega), ← szA_snoc, base0_length, List.length_take]
                rw [show 1 + min k bs.length = k + 1 by omega]
                rfl
              rw [e1] at p0'
              exact ⟨k + 1, by omega, by go_num, p0', p1.other _ _ (by simp; omega), hb.setCell (by simp; omega) _⟩
            case measure => simp [intOf]; omega
          · obtain rfl : n = k := by omega
            rw [List.take_of_length_le (by omega)] at p0
            go_wp2
            go_loopw [7] (fun i wr => ∃ (k : Nat) (out : List (List Int)), k ≤ m ∧ i = .int .i64 (k : Int) ∧ out.length = 1 + n + k ∧ (∀ l ∈ out, l.length ≤ 16) ∧ build [] ps (base0 bs) = build (ps.take k) (ps.drop k) out ∧ Blk wr D (szA out) 60 ∧ Blk wr w.heap.size #[.slice A n c, .slice A' m c'] 25 ∧ Below w.heap.size w wr) (fun i _ => m - (intOf i).toNat)
            case atStart => exact ⟨0, base0 bs, by omega, rfl, by rw [base0_length]; omega, by intro l hl; simp only [base0, List.mem_cons, List.mem_map] at hl; rcases hl with rfl | ⟨b, _, rfl⟩ <;> simp, by simp, p0, p1, hb⟩
            case round =>
              clear p0 p1 hb x0 x1
              obtain ⟨k, out, hk, rfl, ho, hsm, hbd, p0, p1, hb⟩ := hrel
              have SM := Lib.hid hsm
              clear hsm
              have x0 : wr.cell? ⟨w.heap.size, 0, none⟩ = some (.slice A n c) := p1.cell _
              have x1 : wr.cell? ⟨w.heap.size, 1, none⟩ = some (.slice A' m c') := p1.cell _
              have HO := Lib.hid ho
              have HB := Lib.hid hbd
              clear ho hbd
              by_cases hlt : k < m
              · obtain ⟨b, o, rfl, y1, y2⟩ := (hv0.below hb).hy.pr k (by omega)
                have DC := Lib.hid (drop_cons ps k (by omega))
                have ea := addr_add b o (k * 2)
                have ea1 : (⟨b, o + k * 2, none⟩ : Addr).add 1 = ⟨b, o + k * 2 + 1, none⟩ := addr_add b (o + k * 2) 1
                have hdup : dupAt ps k = true ↔ ps[k]'(by omega) ∈ ps.take k := by
                  unfold dupAt
                  rw [List.getElem?_eq_getElem (by omega)]
                  simp
                generalize hxv : ps[k]'(by omega) = x at *
                obtain ⟨xa, xb⟩ := x
                simp only at y1 y2
                have XV := Lib.hid hxv
                have DUP := Lib.hid hdup
                clear hxv hdup
                have TK := Lib.hid (List.take_succ_eq_append_getElem (show k < ps.length by omega))
                rw [XV.out] at TK
                go_wp2_with fail
                refine (twicePair_any A (some ⟨b, o, none⟩) n m c c' k bs ps wr (hv0.below hb) hlt).mono ?_
                rintro e w3 ⟨he, hb3⟩
                replace hb := bthen hb hb3
                replace p0 := p0.below hb3
                replace p1 := p1.below hb3
                replace x0 : w3.cell? ⟨w.heap.size, 0, none⟩ = some (.slice A n c) := p1.cell _
                replace x1 : w3.cell? ⟨w.heap.size, 1, none⟩ = some (.slice (some ⟨b, o, none⟩) m c') := p1.cell _
                clear y1 y2 hb3
                by_cases hbad : (xa, xb) ∈ ps.take k ∨ xa < 1 ∨ xb < 1 ∨ (out.length : Int) ≤ xa ∨ (out.length : Int) ≤ xb
                · have hr : errV bs ps = 50 := by
                    unfold errV
                    rw [HV.out, HB.out, DC.out, build_none_seen hbad]
                    rfl
                  have HR := Lib.hid hr
                  clear hr
                  have hcase : (xa < 1 ∨ xb < 1 ∨ (n : Int) + 1 + (k : Int) ≤ xa ∨ (n : Int) + 1 + (k : Int) ≤ xb) ∨ (1 ≤ xa ∧ 1 ≤ xb ∧ xa < (n : Int) + 1 + (k : Int) ∧ xb < (n : Int) + 1 + (k : Int) ∧ dupAt ps k = true) := by
                    have ho := HO.out
                    rcases hbad with h | h
                    · by_cases hq : xa < 1 ∨ xb < 1 ∨ (n : Int) + 1 + (k : Int) ≤ xa ∨ (n : Int) + 1 + (k : Int) ≤ xb
                      · exact .inl hq
                      · exact .inr ⟨by omega, by omega, by omega, by omega, DUP.out.2 h⟩
                    · exact .inl (by omega)
                  clear hbad
                  rcases hcase with h | ⟨h1, h2, h3, h4, h5⟩
                  · generalize dupAt ps k = dd at he
                    subst he
                    by_cases z1 : xa < 1
                    · go_wp2
                      go_returns
                      exact ⟨by rw [HR.out]; rfl, hb⟩
                    · by_cases z2 : xb < 1
                      · go_wp2
                        go_returns
                        exact ⟨by rw [HR.out]; rfl, hb⟩
                      · by_cases z3 : (n : Int) + 1 + (k : Int) ≤ xa
                        · go_wp2
                          go_returns
                          exact ⟨by rw [HR.out]; rfl, hb⟩
                        · have z4 : (n : Int) + 1 + (k : Int) ≤ xb := by omega
                          clear h
                          go_wp2
                          go_returns
                          exact ⟨by rw [HR.out]; rfl, hb⟩
                  · rw [h5] at he
                    subst he
                    clear h5
                    go_wp2
                    go_returns
                    exact ⟨by rw [HR.out]; rfl, hb⟩
                · have hdd : dupAt ps k = false := by
                    cases hq : dupAt ps k with
                    | false => rfl
                    | true => exact absurd (.inl (DUP.out.1 hq)) hbad
                  rw [hdd] at he
                  subst he
                  have ho := HO.out
                  obtain ⟨na, rfl, a1, a2⟩ : ∃ na : Nat, xa = (na : Int) ∧ 1 ≤ na ∧ na < n + 1 + k := ⟨xa.toNat, by omega, by omega, by omega⟩
                  obtain ⟨nb, rfl, b1', b2'⟩ : ∃ nb : Nat, xb = (nb : Int) ∧ 1 ≤ nb ∧ nb < n + 1 + k := ⟨xb.toNat, by omega, by omega, by omega⟩
                  have HBAD := Lib.hid hbad
                  clear ho hbad hdd
                  have l0 : w3.cell? ⟨D, na, none⟩ = some (.int .i64 ((out.getD na []).length : Int)) := by rw [p0.cell, szA_get _ _ (by omega)]
                  have l1 : w3.cell? ⟨D, nb, none⟩ = some (.int .i64 ((out.getD nb []).length : Int)) := by rw [p0.cell, szA_get _ _ (by omega)]
                  have l2 : w3.cell? ⟨D, n + 1 + k, none⟩ = some (.int .i64 ((out.getD (n + 1 + k) []).length : Int)) := by rw [p0.cell, szA_get _ _ (by omega)]
                  have l3 := p0.frozen (n + 1 + k)
                  have hla16 : (out.getD na []).length ≤ 16 := by
                    rw [List.getD_eq_getElem?_getD, List.getElem?_eq_getElem (show na < out.length by have := HO.out; omega)]
                    exact SM.out _ (List.getElem_mem _)
                  have hlb16 : (out.getD nb []).length ≤ 16 := by
                    rw [List.getD_eq_getElem?_getD, List.getElem?_eq_getElem (show nb < out.length by have := HO.out; omega)]
                    exact SM.out _ (List.getElem_mem _)
                  generalize hla : (out.getD na []).length = la at *
                  generalize hlb : (out.getD nb []).length = lb at *
                  generalize ((out.getD (n + 1 + k) []).length : Int) = lz at *
                  have ea2 : (⟨D, 0, none⟩ : Addr).add na = ⟨D, na, none⟩ := by simpa using addr_add D 0 na
                  have ea3 : (⟨D, 0, none⟩ : Addr).add nb = ⟨D, nb, none⟩ := by simpa using addr_add D 0 nb
                  have ea4 : (⟨D, 0, none⟩ : Addr).add (n + 1 + k) = ⟨D, n + 1 + k, none⟩ := by simpa using addr_add D 0 (n + 1 + k)
                  have hlen : (out.getD (na : Int).toNat [] ++ out.getD (nb : Int).toNat []).length = la + lb := by
                    rw [List.length_append, Int.toNat_natCast, Int.toNat_natCast, hla, hlb]
                  have HLE := Lib.hid hlen
                  clear hla hlb hlen
                  have hwr : IntKind.i64.wrap ((la : Int) + (lb : Int)) = (la : Int) + (lb : Int) := IntWalk.i64_in _ (by omega)
                  have htn : ((n : Int) + 1 + (k : Int)).toNat = n + 1 + k := by omega
                  have hnn : 0 ≤ (n : Int) + 1 + (k : Int) := by omega
                  have hn64 : (n : Int) + 1 + (k : Int) < 64 := by omega
                  have hna : (na : Int) < 64 := by omega
                  have hnb : (nb : Int) < 64 := by omega
                  go_wp2
                  go_region
                  all_goals clear hwr htn
                  all_goals
                    have p0' := p0.set (n + 1 + k) (.int .i64 ((la : Int) + (lb : Int)))
                    have e1 : (szA out).setIfInBounds (n + 1 + k) (.int .i64 ((la : Int) + (lb : Int))) = szA (out ++ [out.getD (na : Int).toNat [] ++ out.getD (nb : Int).toNat []]) := by
                      rw [← szA_snoc, HLE.out, show out.length = n + 1 + k by have := HO.out; omega]
                      simp
                    rw [e1] at p0'
                    have l4 : (w3.setCell ⟨D, n + 1 + k, none⟩ (.int .i64 ((la : Int) + (lb : Int)))).cell? ⟨D, n + 1 + k, none⟩ = some (.int .i64 ((la : Int) + (lb : Int))) := World.cell?_setCell_same' _ _ _ (by rw [l2]; rfl)
                    have p1' := p1.other ⟨D, n + 1 + k, none⟩ (.int .i64 ((la : Int) + (lb : Int))) (by simp; omega)
                    have hb' := hb.setCell (p := ⟨D, n + 1 + k, none⟩) (by simp; omega) (.int .i64 ((la : Int) + (lb : Int)))
                    by_cases hlong : 16 < la + lb
                    · have hr : errV bs ps = 50 := by
                        unfold errV
                        rw [HV.out, HB.out, DC.out, build_none_long (by rw [HLE.out]; exact hlong)]
                        rfl
                      have HR := Lib.hid hr
                      clear hr e1
                      go_wp2
                      go_returns
                      exact ⟨by rw [HR.out]; rfl, hb'.drew⟩
                    · have hst := build_step (rest := ps.drop (k + 1)) HBAD.out (by rw [HLE.out]; exact hlong)
                      rw [← DC.out, ← TK.out] at hst
                      have ST := Lib.hid hst
                      clear hst e1
                      go_wp2
                      go_roundw
                      case rel => exact ⟨k + 1, out ++ [out.getD (na : Int).toNat [] ++ out.getD (nb : Int).toNat []], by omega, by go_num, by have := HO.out; simp; omega, by
                        intro l hl
                        rcases List.mem_append.1 hl with hl | hl
                        · exact SM.out l hl
                        · simp only [List.mem_singleton] at hl
                          subst hl
                          rw [HLE.out]
                          omega, by rw [HB.out, ST.out], p0', p1', hb'.drew⟩
                      case measure => simp [intOf]; omega
              · have hr : errV bs ps = 0 := by
                  unfold errV
                  rw [HV.out, HB.out, List.drop_of_length_le (by omega)]
                  rfl
                have HR := Lib.hid hr
                clear hr
                go_wp2
                go_returns
                exact ⟨by rw [HR.out]; rfl, hb⟩
  · have hr : errV bs ps = 50 := by
      unfold errV vocF
      rw [hn, hm, if_neg hfit]
      rfl
    have HR := Lib.hid hr
    clear hr
    have hcase : n < 1 ∨ 48 < n ∨ 64 < 1 + n + m := by
      unfold fits at hfit
      omega
    clear hfit
    by_cases z1 : n < 1
    · go_enter Try.func14, Try.ntmps14
      go_wp2
      go_returns
      exact ⟨by rw [HR.out]; rfl, h0⟩
    · by_cases z2 : 48 < n
      · go_enter Try.func14, Try.ntmps14
        go_wp2
        go_returns
        exact ⟨by rw [HR.out]; rfl, h0⟩
      · have z3 : 64 < 1 + n + m := by omega
        clear hcase
        go_enter Try.func14, Try.ntmps14
        go_wp2
        go_returns
        exact ⟨by rw [HR.out]; rfl, h0⟩
end Go.Proofs.Ytobklhnechbpaaa
