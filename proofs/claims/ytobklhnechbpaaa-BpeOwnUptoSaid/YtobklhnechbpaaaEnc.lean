import Derived.StillTailTactics
import Derived.Test.YtobklhnechbpaaaEncK
namespace Go.Proofs.Ytobklhnechbpaaa
open Go.RowKit Go.Shelf Go.Maps
attribute [local go_sem] Oper.semAt_some

/-- a map that the call made: just these keys, with these numbers -/
structure MapIs (k : TypeId) (D : DataW Unit) (kv : List (Value × Int)) : Prop where
  keys : KeysAre k D (kv.map (·.1))
  vals : ∀ (v : Value) (i : Int) (l : Lit), (v, i) ∈ kv → keyOf Try.prog k v = some l → D.atKey l (.lit (.int .i64 0)) = .lit (.int .i64 i)
theorem MapIs.nil (k : TypeId) : MapIs k (.map []) [] := ⟨KeysAre.nil k, by simp⟩
theorem MapIs.put {k : TypeId} (K : Keyed Try.prog k) {D : DataW Unit} {kv : List (Value × Int)} (h : MapIs k D kv) {v0 : Value} {i0 : Int} {l0 : Lit} (hk : keyOf Try.prog k v0 = some l0) (hn : v0 ∉ kv.map (·.1)) :
    MapIs k (D.put l0 (.lit (.int .i64 i0))) (kv ++ [(v0, i0)]) := by
  refine ⟨by simpa using h.keys.put K hk _, fun v i l hm hl => ?_⟩
  rcases List.mem_append.1 hm with hm2 | hm2
  · have hne : l ≠ l0 := by
      rintro rfl
      have := K.inj hl hk
      subst this
      exact hn (List.mem_map.2 ⟨(v, i), hm2, rfl⟩)
    rw [atKey_put_other hne]
    exact h.vals v i l hm2 hl
  · simp only [List.mem_singleton, Prod.mk.injEq] at hm2
    obtain ⟨rfl, rfl⟩ := hm2
    obtain rfl : l = l0 := Option.some.inj (hl.symm.trans hk)
    rw [atKey_put_same h.keys.1 (K.key hk)]
theorem Up.refl (B : Nat) (W : World) : Up B W W := ⟨Nat.le_refl _, fun _ _ _ => rfl⟩
/-- the base bytes' tokens -/
def kvO (bs : List Int) (j : Nat) : List (Value × Int) := (bs.take j).zipIdx.map fun p => (.int .u8 p.1, (p.2 : Int) + 1)
theorem kvO_keys (bs : List Int) (j : Nat) : (kvO bs j).map (·.1) = B8 (bs.take j) := by
  have : ∀ (l : List Int) (k : Nat), ((l.zipIdx k).map fun p => (Value.int .u8 p.1, (p.2 : Int) + 1)).map (·.1) = B8 l := by
    intro l
    induction l with
    | nil => intro k; rfl
    | cons a r ih => intro k; simp only [List.zipIdx_cons, List.map_cons, ih, B8]
  exact this _ 0
theorem kvO_snoc (bs : List Int) (j : Nat) (h : j < bs.length) : kvO bs (j + 1) = kvO bs j ++ [(.int .u8 bs[j], (j : Int) + 1)] := by
  unfold kvO
  rw [List.take_succ_eq_append_getElem h, List.zipIdx_append, List.map_append]
  simp [Nat.min_eq_left (Nat.le_of_lt h)]
/-- the pairs' ranks -/
def kvR (ps : List (Int × Int)) (j : Nat) : List (Value × Int) := (ps.take j).zipIdx.map fun p => (.agg #[.int .i64 p.1.1, .int .i64 p.1.2], (p.2 : Int))
theorem kvR_keys (ps : List (Int × Int)) (j : Nat) : (kvR ps j).map (·.1) = PV (ps.take j) := by
  have : ∀ (l : List (Int × Int)) (k : Nat), ((l.zipIdx k).map fun p => (Value.agg #[.int .i64 p.1.1, .int .i64 p.1.2], (p.2 : Int))).map (·.1) = PV l := by
    intro l
    induction l with
    | nil => intro k; rfl
    | cons a r ih => intro k; simp only [List.zipIdx_cons, List.map_cons, ih, PV]
  exact this _ 0
theorem kvR_snoc (ps : List (Int × Int)) (j : Nat) (h : j < ps.length) : kvR ps (j + 1) = kvR ps j ++ [(.agg #[.int .i64 ps[j].1, .int .i64 ps[j].2], (j : Int))] := by
  unfold kvR
  rw [List.take_succ_eq_append_getElem h, List.zipIdx_append, List.map_append]
  simp [Nat.min_eq_left (Nat.le_of_lt h)]
theorem kvR_mem (ps : List (Int × Int)) (i : Nat) (hi : i < ps.length) : (Value.agg #[.int .i64 ps[i].1, .int .i64 ps[i].2], (i : Int)) ∈ kvR ps ps.length := by
  unfold kvR
  rw [List.take_of_length_le (Nat.le_refl _)]
  exact List.mem_map.2 ⟨(ps[i], i), List.mem_zipIdx_iff_getElem?.2 (by simp [hi]), rfl⟩
theorem baseT_bd {bs : List Int} {n : Nat} (hn : bs.length = n) (h : n ≤ 48) (q : Int) : 0 ≤ baseT bs q ∧ baseT bs q ≤ 64 := by
  unfold baseT
  split
  · rename_i hm
    have := List.idxOf_lt_length_iff.2 hm
    omega
  · omega
theorem joined_bd {p : Int × Int} {t : Int} (ht : 0 ≤ t ∧ t ≤ 64) : ∀ (n : Nat) (l : List Int), l.length ≤ n → (∀ y ∈ l, 0 ≤ y ∧ y ≤ 64) → ∀ y ∈ joined p t l, 0 ≤ y ∧ y ≤ 64 := by
  intro n
  induction n with
  | zero => intro l hl; match l, hl with | [], _ => simp [joined]
  | succ n ih =>
    intro l hl h
    match l, hl, h with
    | [], _, _ => simp [joined]
    | [x], _, h => simpa [joined] using h
    | x :: y :: r, hl, h =>
      unfold joined
      split
      · intro z hz
        rcases List.mem_cons.1 hz with rfl | hz
        · exact ht
        · exact ih r (by simp at hl; omega) (fun a ha => h a (by simp [ha])) z hz
      · intro z hz
        rcases List.mem_cons.1 hz with rfl | hz
        · exact h _ (by simp)
        · exact ih (y :: r) (by simpa using hl) (fun a ha => h a (List.mem_cons_of_mem _ ha)) z hz
theorem pairs_uniq {bs : List Int} {ps : List (Int × Int)} {ls : List (List Int)} (hT : Toks bs ps ls) {p : Int × Int} {i j : Nat} (hi : ps[i]? = some p) (hj : ps[j]? = some p) : i = j := by
  obtain ⟨h1, e1⟩ := List.getElem?_eq_some_iff.1 hi
  obtain ⟨h2, e2⟩ := List.getElem?_eq_some_iff.1 hj
  rcases Nat.lt_trichotomy i j with h | h | h
  · exact absurd (by rw [e2, ← e1]; exact List.mem_take_iff_getElem.2 ⟨i, by omega, rfl⟩) (hT.pnodup j h2)
  · exact h
  · exact absurd (by rw [e1, ← e2]; exact List.mem_take_iff_getElem.2 ⟨j, by omega, rfl⟩) (hT.pnodup i h1)
theorem kvO_mem {bs : List Int} {n : Nat} (hn : bs.length = n) (hd : bs.Nodup) {z : Int} (hz : z ∈ bs) : (Value.int .u8 z, baseT bs z) ∈ kvO bs n := by
  unfold kvO baseT
  rw [if_pos hz, List.take_of_length_le (by omega)]
  obtain ⟨i, hi, rfl⟩ := List.mem_iff_getElem.1 hz
  have hx : bs.idxOf bs[i] = i := idxOf_at hi rfl ((nodup_take bs i hi).1 (List.Nodup.sublist (List.take_sublist _ _) hd)).2
  rw [hx]
  exact List.mem_map.2 ⟨(bs[i], i), List.mem_zipIdx_iff_getElem?.2 (by simp [hi]), rfl⟩
theorem ownsMap_sm {B : Nat} {w w' : World} {k : TypeId} {R : Value → Option (DataW Unit × List MemPlace)} {b n : Nat} {D : DataW Unit} (h : w.ownsMap Try.prog k R b n D) (hb : b < B) (hs : Sm B w w') : w'.ownsMap Try.prog k R b n D := by
  have hl := h.lt
  obtain ⟨es, clock, hh, hr⟩ := h
  exact ⟨es, clock, (hs.low b hl hb).trans hh, hr⟩

set_option maxRecDepth 100000 in
set_option maxHeartbeats 4000000 in
/-- bpe.Encode -/
theorem encode_any (A A' T : Option Addr) (n m t c c' ct : Nat) (bs : List Int) (ps : List (Int × Int)) (x : List Int) (w : World) (hv : Voc w A A' n m bs ps) (hwf : Wf bs ps) (hl : x.length = t) (ht : Rd w T (B8 x)) (hwx : ∀ b ∈ x, (Lit.int .u8 b).wf = true) (hs : t ≤ 8388600) :
    Calls Try.prog 26 #[.agg #[.slice A n c, .slice A' m c'], .slice T t ct] w fun e w' => ∃ v, e = .returned (.tuple #[v, .int .i64 (errE bs ps x)]) ∧ w'.ownsRow w.heap.size 3 1 v (encL bs ps x).length (I64 (encL bs ps x)) ∧ Below w.heap.size w w' := by
  have h0 : Below w.heap.size w (w.alloc (.cells #[.slice A n c, .slice A' m c'] 25)) := by go_grown
  have q0 := Blk.new w #[.slice A n c, .slice A' m c'] 25
  have hmm := @run_makeMap Try.prog
  refine (callsIn_wide (n := 10)).1 ?_
  refine callsIn_of_wp_marks Try.func26 rfl trivial ?_ rfl
  simp only [Try.ntmps26, List.size_toArray, List.length_cons, List.length_nil, Nat.reduceAdd, Nat.reduceSub, Array.replicate_succ, Array.replicate_zero, List.push_toArray, List.append_toArray, List.nil_append, List.cons_append]
  gi_wp2_with fail
  refine ⟨trivial, ?_⟩
  refine (callsIn_wide.2 (check_any A A' n m c c' bs ps _ (hv.below h0) hwf)).mono ?_
  rintro e w1 ⟨rfl, hb⟩
  replace q0 := q0.below hb
  replace hb := bthen h0 hb
  have hM := q0.lt
  clear h0
  cases hq : vocF bs ps with
  | none =>
    have he : errE bs ps x = 50 := by unfold errE; rw [hq]
    have hy : encL bs ps x = [] := by unfold encL; rw [hq]
    have he2 : errV bs ps = 50 := by unfold errV; rw [hq]; rfl
    rw [he2]
    have HR := Lib.hid he
    have HY := Lib.hid hy
    clear he hq hy he2
    gi_wp2
    refine ⟨_, results_tmp2 rfl _ _ _, .slice none 0 0, by rw [HR.out]; rfl, ?_, hb⟩
    rw [HY.out]
    exact World.ownsRow_nil _ _ _ _
  | some ls =>
    have hT := toks_of hq
    have h2 := hT.n48
    have h3 := hT.n64
    rw [hv.hn] at h2 h3
    rw [hv.hm] at h3
    have he : errE bs ps x = if x.all (fun b => decide (b ∈ bs)) then 0 else 51 := by unfold errE; rw [hq]
    have hy : encL bs ps x = if x.all (fun b => decide (b ∈ bs)) then joinAll bs.length ps (x.map (baseT bs)) else [] := by unfold encL; rw [hq]
    rw [hv.hn] at hy
    have he2 : errV bs ps = 0 := by unfold errV; rw [hq]; rfl
    have htk : toks bs ps = ls := by unfold toks; rw [hq]; rfl
    rw [he2]
    have HR := Lib.hid he
    have HY := Lib.hid hy
    clear he hq hy he2
    have hbA : Below w1.heap.size w1 ((w1.alloc (.map #[] 0)).alloc (.cells #[.map (some w1.heap.size)] 63)) := by go_grown
    have x0 : ((w1.alloc (.map #[] 0)).alloc (.cells #[.map (some w1.heap.size)] 63)).cell? ⟨w.heap.size, 0, none⟩ = some (.slice A n c) := (q0.below hbA).cell _
    have x1 : ((w1.alloc (.map #[] 0)).alloc (.cells #[.map (some w1.heap.size)] 63)).cell? ⟨w.heap.size, 1, none⟩ = some (.slice A' m c') := (q0.below hbA).cell _
    gi_wp2_with fail
    refine ⟨trivial, ?_⟩
    refine (callsIn_wide.2 (all_any _ _ _ _ rfl)).mono ?_
    rintro e w4 ⟨rfl, q4, hbB⟩
    have hbC := bthen hb (bthen hbA hbB)
    have qm : ((w1.alloc (.map #[] 0)).alloc (.cells #[.map (some w1.heap.size)] 63)).ownsMap Try.prog 5 (plainElem Try.prog 3) w1.heap.size 0 (.map [] : DataW Unit) := (World.ownsMap_made (H := Unit) w1 Try.prog 5 (plainElem Try.prog 3)).alloc _
    have q6 : Blk ((w1.alloc (.map #[] 0)).alloc (.cells #[.map (some w1.heap.size)] 63)) (w1.heap.size + 1) #[.map (some w1.heap.size)] 63 := by
      have := Blk.new (w1.alloc (.map #[] 0)) #[.map (some w1.heap.size)] 63
      simpa using this
    replace qm := World.ownsMap.kept qm (row := none) ⟨hbB.os, hbB.tape, hbB.output, hbB.size, fun i hi _ => hbB.block i hi⟩ (by simp)
    replace q6 := q6.below hbB
    replace q0 := q0.below (bthen hbA hbB)
    gi_wp2_with fail
    rename_i K hK
    have hMb : w1.heap.size < w4.heap.size := qm.lt
    have hMc : w1.heap.size + 1 < w4.heap.size := q6.lt
    have hMd : w1.heap.size + 1 + 1 < w4.heap.size := by have := q4.lt; simpa using this
    have key : ∀ (D : Nat) (W : World) (Dm : DataW Unit), w4.heap.size ≤ D → W.heap[D]? = some (.deferred (some [])) → W.ownsMap Try.prog 5 (plainElem Try.prog 3) w1.heap.size (n + 2) Dm → MapIs 5 Dm (kvO bs n) → Blk W (w1.heap.size + 1) #[.map (some w1.heap.size)] 63 →
        Blk W w.heap.size #[.slice A n c, .slice A' m c'] 25 → Below w.heap.size w W → K { tmps := #[.agg #[.slice A n c, .slice A' m c'], .slice T t ct, .pointer (some ⟨w.heap.size, 0, none⟩), undef, .slice none 0 0, .int .i64 0, .pointer (some ⟨w1.heap.size + 1, 0, none⟩), undef, undef, undef, undef, undef, undef, undef, undef, undef, undef, undef, undef, undef, undef, .agg #[.slice A n c, .slice A' m c'], .int .i64 0, .bool false, .map (some w1.heap.size), .agg #[.slice A n c, .slice A' m c'], .func (.func 41) #[] #[.pointer (some ⟨w1.heap.size + 1 + 1, 0, none⟩)], undef, undef, undef, undef, undef, undef, undef, undef, undef, undef, undef, undef, undef, undef, undef, undef, undef, undef, undef, undef, undef, undef, undef, undef, undef, undef, undef, undef, undef, undef, undef, undef, undef, undef, undef, undef, undef, undef, undef, undef, undef, undef, undef, undef, undef, undef, undef, undef, undef, undef, undef, undef, undef, undef, undef, undef, undef, undef, undef, undef, undef, undef, undef, undef, undef, undef, undef, undef, undef, undef, undef, undef, undef, undef, undef, undef, undef, undef, undef, undef, undef, undef, undef, undef, undef, undef, undef, undef, undef, undef, undef, undef, undef, undef, undef, undef, undef, undef, undef], defers := marks [D] } W := by
      intro D W Dm hD hDd hof hM6 a4 a5 a6
      have hDW : D < W.heap.size := (Array.getElem?_eq_some_iff.1 hDd).1
      have hmk : (Instr.makeSlice 39 (.int .i64 0) (.int .i64 (t : Int))).run Try.prog W = .ok (.slice (some ⟨W.heap.size, 0, none⟩) 0 t) (W.alloc (.cells (madeCells #[.int .i64 0] t) 3)) := by
        obtain ⟨i0, hi, hz0, hz1, hz2⟩ := info_parts info3
        have h := run_make (P := Try.prog) W 39 3 i0 (.int .i64 0) Try.underlying39 hi hz0 .i64 .i64 0 (t : Int) (by omega) (by omega) (by rw [hz2]; omega) (by omega)
        rw [hz1, Nat.mul_one, Int.toNat_natCast] at h
        exact h
      have oo0 := own_made3 W W.heap.size t (Nat.le_refl _) (by unfold maxLen; omega)
      have hbl : Below W.heap.size W (W.alloc (.cells (madeCells #[.int .i64 0] t) 3)) := by go_grown
      have htW := ht.below a6
      apply hK
      gi_wp2_with fail
      clear hmk
      generalize W.alloc (.cells (madeCells #[.int .i64 0] t) 3) = W1 at *
      gi_loopw [9, 46] (fun ov i wr => ∃ k : Nat, k ≤ t ∧ i = .int .i64 (k : Int) ∧ (x.take k).all (fun b => decide (b ∈ bs)) = true ∧ wr.ownsRow W.heap.size 3 1 ov k (I64 ((x.take k).map (baseT bs))) ∧ Below W.heap.size W wr) (fun _ i _ => t - (intOf i).toNat)
      case atStart => exact ⟨0, by omega, rfl, rfl, oo0, hbl⟩
      case round =>
        obtain ⟨k, hk, rfl, hall, oo, hb2⟩ := hrel
        obtain ⟨Ao, co, rfl, _, _⟩ := own_rd oo
        have AL := Lib.hid hall
        clear hall
        have y6 : wr.cell? ⟨w1.heap.size + 1, 0, none⟩ = some (.map (some w1.heap.size)) := (a4.below hb2).cell _
        have hof2 := World.ownsMap.kept hof (row := none) ⟨hb2.os, hb2.tape, hb2.output, hb2.size, fun i hi _ => hb2.block i hi⟩ (by simp)
        by_cases hlt : k < t
        · obtain ⟨b, o, rfl, y1⟩ := (htW.below hb2).b8 k (by omega)
          have ea := addr_add b o k
          have hkt : (k : Int) < (t : Int) := by omega
          have TK := Lib.hid (List.take_succ_eq_append_getElem (show k < x.length by omega))
          have hmem : x[k]'(by omega) ∈ x := List.getElem_mem _
          generalize x[k]'(by omega) = z at *
          have hkey : keyOf Try.prog 5 (.int .u8 z) = some (.int .u8 z) := keyOf_int_mk Try.underlying5 (hwx z hmem)
          have HKY := Lib.hid hkey
          have hhas := hM6.keys.2 _ _ hkey
          rw [kvO_keys, List.take_of_length_le (by have := hv.hn; omega)] at hhas
          have hB8 : (Value.int .u8 z ∈ B8 bs) ↔ z ∈ bs := by
            show (Value.int .u8 z ∈ bs.map (Value.int .u8)) ↔ _
            rw [List.mem_map]
            constructor
            · rintro ⟨y, hy, he⟩
              cases he
              exact hy
            · exact fun hy => ⟨_, hy, rfl⟩
          rw [hB8] at hhas
          by_cases hin : z ∈ bs
          · have hh := hhas.2 hin
            have hval := hM6.vals (.int .u8 z) (baseT bs z) _ (kvO_mem hv.hn hT.nodup hin) hkey
            have HIN := Lib.hid hin
            have HV := Lib.hid hval
            clear hhas hB8 hin hkey hval hmem
            gi_wp2_with (first
              | (gi_at_lookup; refine wpListIn_lookup_own_ok_int _ rfl _ _ 63 rfl 5 3 .i64 law5 Try.underlying63 Try.underlying3 (zero3 _) w1.heap.size (n + 2) Dm rfl hof2 _ _ rfl HKY.out ?_; intro cc hat hwc; rw [HV.out] at hat; cases hat)
              | (gi_at_builtin; refine appIn (w0 := W) W.heap.size rfl _ _ 39 3 (.int .i64 0) 1 8 rfl Try.underlying39 info3 rfl (by decide) (by decide) (.slice Ao k co) k (I64 ((x.take k).map (baseT bs))) #[.int .i64 (baseT bs z)] rfl rfl rfl (by simp [Value.oneCell']) oo hb2 hb2.size (by omega) ?_; intro g cap w5 ow hb5 hg5 hat5))
            go_roundw
            case rel =>
              refine ⟨k + 1, by omega, by go_num, ?_, ?_, hb5⟩
              · rw [TK.out, List.all_append, AL.out]
                simpa using HIN.out
              · rw [TK.out, List.map_append, List.map_cons, List.map_nil, ← I64_snoc]
                exact ow
            case measure => simp [intOf]; omega
          · have hh : Maps.has Dm (.int .u8 z) = false := by
              cases hq : Maps.has Dm (.int .u8 z) with
              | false => rfl
              | true => exact absurd (hhas.1 hq) hin
            have hno : ¬ (x.all (fun b => decide (b ∈ bs)) = true) := by
              intro h
              have := List.all_eq_true.1 h z hmem
              exact hin (of_decide_eq_true this)
            have NO := Lib.hid hno
            clear hhas hB8 hkey hmem hno hin
            gi_wp2_with (gi_at_lookup; refine wpListIn_lookup_own_ok_int _ rfl _ _ 63 rfl 5 3 .i64 law5 Try.underlying63 Try.underlying3 (zero3 _) w1.heap.size (n + 2) Dm rfl hof2 _ _ rfl HKY.out ?_; intro cc hat hwc)
            refine leaves_marks w.heap.size [D] _ (by simp) (fun D' h => by simp at h; subst h; exact ⟨by omega, (hb2.block _ hDW).trans hDd⟩) ?_
            intro W4 hs
            exact ⟨_, results_tmp2 rfl _ _ _, .slice none 0 0, by rw [HR.out, if_neg NO.out]; rfl, by rw [HY.out, if_neg NO.out]; exact World.ownsRow_nil _ _ _ _, Below.sm (bthen a6 hb2) (Nat.le_refl _) (Nat.le_refl _) hs⟩
        · obtain rfl : t = k := by omega
          have hall : x.all (fun b => decide (b ∈ bs)) = true := by
            have := AL.out
            rwa [List.take_of_length_le (by omega)] at this
          have hxt : x.take t = x := List.take_of_length_le (by omega)
          rw [hxt] at oo
          have NO := Lib.hid hall
          clear hall hxt AL hof2 y6 hof hM6 a4
          have q0r := a5.below hb2
          have hbr := bthen a6 hb2
          have hDr := (hb2.block _ hDW).trans hDd
          have hmr : Below wr.heap.size wr (wr.alloc (.map #[] 0)) := by go_grown
          have x0 : (wr.alloc (.map #[] 0)).cell? ⟨w.heap.size, 0, none⟩ = some (.slice A n c) := (q0r.below hmr).cell _
          have x1 : (wr.alloc (.map #[] 0)).cell? ⟨w.heap.size, 1, none⟩ = some (.slice A' m c') := (q0r.below hmr).cell _
          have hmp := World.ownsMap_made (H := Unit) wr Try.prog 51 (plainElem Try.prog 3)
          gi_wp2_with fail
          have hMr : (wr.alloc (.map #[] 0)).ownsMap Try.prog 51 (plainElem Try.prog 3) wr.heap.size 0 (.map [] : DataW Unit) := hmp
          clear hmp x0 x1
          generalize wr.alloc (.map #[] 0) = V0 at *
          obtain ⟨wt, hwt⟩ : ∃ wt, wt = wr := ⟨_, rfl⟩
          subst hwt
          gi_loopw [67] (fun i V => ∃ (k : Nat) (Dr : DataW Unit), k ≤ m ∧ i = .int .i64 (k : Int) ∧ V.ownsMap Try.prog 51 (plainElem Try.prog 3) wt.heap.size k Dr ∧ MapIs 51 Dr (kvR ps k) ∧ Below wt.heap.size wt V) (fun i _ => m - (intOf i).toNat)
          case atStart => exact ⟨0, .map [], by omega, rfl, hMr, MapIs.nil 51, hmr⟩
          case round =>
            clear hMr hmr
            obtain ⟨k, Dr, hk, rfl, hMr, hIs, hbv⟩ := hrel
            have x0 : wr.cell? ⟨w.heap.size, 0, none⟩ = some (.slice A n c) := (q0r.below hbv).cell _
            have x1 : wr.cell? ⟨w.heap.size, 1, none⟩ = some (.slice A' m c') := (q0r.below hbv).cell _
            by_cases hlt : k < m
            · obtain ⟨b, o, rfl, y1, y2⟩ := (hv.below (bthen hbr hbv)).hy.pr k (by have := hv.hm; omega)
              have ea := addr_add b o (k * 2)
              have ea1 : (⟨b, o + k * 2, none⟩ : Addr).add 1 = ⟨b, o + k * 2 + 1, none⟩ := addr_add b (o + k * 2) 1
              have hsn := kvR_snoc ps k (by have := hv.hm; omega)
              have wfx := hwf.p _ (List.getElem_mem (show k < ps.length by have := hv.hm; omega))
              have hpn := hT.pnodup k (by have := hv.hm; omega)
              generalize ps[k]'(by have := hv.hm; omega) = p at *
              obtain ⟨xa, xb⟩ := p
              simp only at y1 y2 wfx hsn
              obtain ⟨kl, hkey⟩ := key51 xa xb wfx.1 wfx.2
              have HK := Lib.hid hkey
              have hIs2 : MapIs 51 (Dr.put kl (.lit (.int .i64 (k : Int)))) (kvR ps (k + 1)) := by
                rw [hsn]
                refine hIs.put law51 hkey ?_
                rw [kvR_keys, PV_mem]
                exact hpn
              clear hkey hsn hpn
              gi_wp2_with (gi_at_mapUpdate; refine wpListIn_mapUpdate_own _ rfl _ _ _ 65 rfl 51 3 law51 Try.underlying65 _ wt.heap.size k _ rfl (hMr.alloc _) (by unfold maxLen; omega) _ _ _ rfl rfl HK.out _ [] (plainElem_int Try.underlying3 (WalkArith.wf_i64 (by omega))) ?_; intro w3 pm2 hg2)
              go_roundw
              case rel => exact ⟨k + 1, _, by omega, by go_num, pm2, hIs2, (hbv.alloc hbv.size _).grown hg2 (by have := hbv.size; simp; omega) (fun j hj => by cases hj; exact Nat.le_refl _)⟩
              case measure => simp [intOf]; omega
            · obtain rfl : m = k := by omega
              have oo3 := own_below oo hbv
              have q03 := q0r.below hbv
              have hb3 := bthen hbr hbv
              have hD3 := (hbv.block _ (Array.getElem?_eq_some_iff.1 hDr).1).trans hDr
              have hbd0 : ∀ y ∈ x.map (baseT bs), 0 ≤ y ∧ y ≤ 64 := by
                intro y hy
                obtain ⟨q, _, rfl⟩ := List.mem_map.1 hy
                exact baseT_bd hv.hn h2 q
              have hlen0 : (x.map (baseT bs)).length = t := by simpa using hl
              generalize hX : x.map (baseT bs) = l0 at *
              clear oo q0r hbr hDr
              gi_wp2_with fail
              gi_loopw [9] (fun lv V => ∃ (l2 : List Int), V.ownsRow W.heap.size 3 1 lv l2.length (I64 l2) ∧ joinAll n ps l0 = joinAll n ps l2 ∧ l2.length ≤ t ∧ (∀ y ∈ l2, 0 ≤ y ∧ y ≤ 64) ∧ V.ownsMap Try.prog 51 (plainElem Try.prog 3) wt.heap.size m Dr ∧ Blk V w.heap.size #[.slice A n c, .slice A' m c'] 25 ∧ Below w.heap.size w V ∧ V.heap[D]? = some (.deferred (some []))) (fun lv _ => lenV lv)
              case atStart => exact ⟨l0, by rw [hlen0]; exact oo3, rfl, by omega, hbd0, hMr, q03, hb3, hD3⟩
              case round =>
                clear hMr q03 hb3 hD3 oo3 hbd0
                obtain ⟨l2, ov, hja, hlt2, hbd, hMr, q0, hb, hD0⟩ := hrel
                obtain ⟨Al, cl, rfl, hcl, rl⟩ := own_rd ov
                have x0 : wr.cell? ⟨w.heap.size, 0, none⟩ = some (.slice A n c) := q0.cell _
                have x1 : wr.cell? ⟨w.heap.size, 1, none⟩ = some (.slice A' m c') := q0.cell _
                obtain ⟨V, hV⟩ : ∃ V, V = wr := ⟨_, rfl⟩
                subst hV
                have HJ := Lib.hid hja
                clear hja
                gi_wp2_with fail
                gi_loopw [17, 18] (fun bv i V2 => ∃ (k b : Nat), k ≤ l2.length ∧ i = .int .i64 ((k : Int) + 1) ∧ bv = .int .i64 (b : Int) ∧ b ≤ m ∧ (b < m → ∃ i', i' + 1 < l2.length ∧ ∃ p, ps[b]? = some p ∧ atP l2 p i' = true) ∧
                  (∀ q : Nat, q < b → ∀ p, ps[q]? = some p → ∀ i', i' < k → atP l2 p i' = false) ∧ Below V.heap.size V V2) (fun _ i _ => l2.length + 1 - (intOf i).toNat)
                case atStart => exact ⟨0, m, by omega, rfl, rfl, Nat.le_refl _, fun h => absurd h (Nat.lt_irrefl _), fun _ _ _ _ i' h => by omega, Below.refl _ _⟩
                case round =>
                  obtain ⟨k, b, hk, rfl, rfl, hbm, hst, hno, hb2⟩ := hrel
                  have HST := Lib.hid hst
                  have HNO := Lib.hid hno
                  clear hst hno
                  have z0 : wr.cell? ⟨w.heap.size, 0, none⟩ = some (.slice A n c) := (q0.below hb2).cell _
                  have z1 : wr.cell? ⟨w.heap.size, 1, none⟩ = some (.slice A' m c') := (q0.below hb2).cell _
                  have ov2 := own_below ov hb2
                  by_cases hlt : k + 1 < l2.length
                  · obtain ⟨g, o, rfl, y1⟩ := (rl.below hb2).i64 k (by omega)
                    obtain ⟨g', o', he, y2⟩ := (rl.below hb2).i64 (k + 1) hlt
                    obtain ⟨rfl, rfl⟩ : g = g' ∧ o = o' := by simpa using he
                    clear he
                    have ea := addr_add g o k
                    have ea2 := addr_add g o (k + 1)
                    have hi1 : ((k : Int) + 1).toNat = k + 1 := by omega
                    have hb1 : (k : Int) + 1 < (l2.length : Int) := by omega
                    have hb20 : 0 ≤ (k : Int) + 1 := by omega
                    have hb30 : (k : Int) < (l2.length : Int) := by omega
                    have hwk : IntKind.i64.wrap (k : Int) = (k : Int) := IntWalk.i64_in _ (by omega)
                    have hs1 : (k : Int) + 1 - 1 = (k : Int) := by omega
                    have hat := fun p => atP_of (p := p) (show k < l2.length by omega) hlt
                    have w1' := hbd _ (List.getElem_mem (show k < l2.length by omega))
                    have w2' := hbd _ (List.getElem_mem hlt)
                    generalize ha' : l2[k]'(by omega) = ya at *
                    generalize hb' : l2[k + 1]'hlt = yb at *
                    obtain ⟨kl, hkey⟩ := key51 ya yb (WalkArith.wf_i64 (by omega)) (WalkArith.wf_i64 (by omega))
                    have hmv := World.ownsMap.kept hMr (row := none) ⟨hb2.os, hb2.tape, hb2.output, hb2.size, fun i hi _ => hb2.block i hi⟩ (by simp)
                    obtain ⟨v, pp, hrun0, hv2⟩ := World.ownsMap.look_ok hmv law51 Try.underlying65 (zero3 _) (plainElem_int Try.underlying3 (by decide)) hkey
                    obtain ⟨cc, rfl, hc, hwc⟩ := plainElem_int_inv Try.underlying3 hv2
                    have hrun : ∀ j, (Instr.lookup 65 (.map (some wt.heap.size)) (.agg #[.int .i64 ya, .int .i64 yb]) true).run Try.prog (wr.drewN j) = .ok (.tuple #[.int .i64 cc, .bool (has Dr kl)]) (wr.drewN j) := by
                      intro j
                      have hmj : (wr.drewN j).ownsMap Try.prog 51 (plainElem Try.prog 3) wt.heap.size m Dr := hmv
                      obtain ⟨v, pp, hr, hv3⟩ := World.ownsMap.look_ok hmj law51 Try.underlying65 (zero3 _) (plainElem_int Try.underlying3 (by decide)) hkey
                      obtain ⟨cd, rfl, hd, _⟩ := plainElem_int_inv Try.underlying3 hv3
                      simp only [Prod.mk.injEq] at hc hd
                      have : cc = cd := by have := hc.1.symm.trans hd.1; simpa using this
                      rw [this]
                      exact hr
                    clear hrun0 hmv
                    gi_wp2_with fail
                    gi_quiet (fail)
                    have hatk := hat
                    by_cases hin : (ya, yb) ∈ ps
                    · obtain ⟨q, hq, hpq⟩ := List.mem_iff_getElem.1 hin
                      have hh : has Dr kl = true := (hIs.keys.2 _ _ hkey).2 (by rw [kvR_keys, PV_mem, List.take_of_length_le (by have := hv.hm; omega)]; exact hin)
                      have hcq : cc = (q : Int) := by
                        have h1 := hIs.vals (.agg #[.int .i64 ya, .int .i64 yb]) (q : Int) kl (by have := kvR_mem ps q hq; rw [hpq, hv.hm] at this; exact this) hkey
                        simp only [Prod.mk.injEq] at hc
                        rw [hc.1] at h1
                        simpa using h1
                      subst hcq
                      have hpq2 : ps[q]? = some (ya, yb) := by rw [List.getElem?_eq_getElem hq, hpq]
                      have hqm : q < m := by have := hv.hm; omega
                      have hnew : ∀ q' : Nat, q' ≠ q → ∀ p, ps[q']? = some p → atP l2 p k = false := by
                        intro q' hne p hp
                        rw [hat p, decide_eq_false_iff_not]
                        rintro ⟨e1, e2⟩
                        have hpe : p = (ya, yb) := by rw [e1, e2]
                        subst hpe
                        exact hne (pairs_uniq hT hp hpq2)
                      have hatq : atP l2 (ya, yb) k = true := by rw [hat]; simp
                      rw [hh]
                      have HN := Lib.hid hnew
                      have HQ := Lib.hid hatq
                      clear hat hatk hc hv2 hnew hatq hrun hin hh hwc hkey
                      by_cases hqb : q < b
                      · have hqbi : (q : Int) < (b : Int) := by omega
                        gi_wp2
                        go_roundw
                        case rel => exact ⟨k + 1, q, by omega, by go_num, rfl, by omega, fun _ => ⟨k, hlt, _, hpq2, HQ.out⟩, fun q' hq' p hp i' hi' => by
                          rcases Nat.lt_or_ge i' k with h | h
                          · exact HNO.out q' (by omega) p hp i' h
                          · obtain rfl : i' = k := by omega
                            exact HN.out q' (by omega) p hp, bdraw hb2 _⟩
                        case measure => simp [intOf]; omega
                      · have hqbi : ¬ ((q : Int) < (b : Int)) := by omega
                        gi_wp2
                        go_roundw
                        case rel => exact ⟨k + 1, b, by omega, by go_num, rfl, hbm, HST.out, fun q' hq' p hp i' hi' => by
                          rcases Nat.lt_or_ge i' k with h | h
                          · exact HNO.out q' hq' p hp i' h
                          · obtain rfl : i' = k := by omega
                            exact HN.out q' (by omega) p hp, bdraw hb2 _⟩
                        case measure => simp [intOf]; omega
                    · have hh : has Dr kl = false := by
                        cases hq : has Dr kl with
                        | false => rfl
                        | true =>
                          have := (hIs.keys.2 _ _ hkey).1 hq
                          rw [kvR_keys, PV_mem, List.take_of_length_le (by have := hv.hm; omega)] at this
                          exact absurd this hin
                      have hnew : ∀ q' : Nat, ∀ p, ps[q']? = some p → atP l2 p k = false := by
                        intro q' p hp
                        rw [hat p, decide_eq_false_iff_not]
                        rintro ⟨e1, e2⟩
                        have hpe : p = (ya, yb) := by rw [e1, e2]
                        subst hpe
                        exact hin (List.mem_of_getElem? hp)
                      rw [hh]
                      have HN := Lib.hid hnew
                      clear hat hatk hc hv2 hnew hrun hin hh hkey
                      gi_wp2
                      go_roundw
                      case rel => exact ⟨k + 1, b, by omega, by go_num, rfl, hbm, HST.out, fun q' hq' p hp i' hi' => by
                        rcases Nat.lt_or_ge i' k with h | h
                        · exact HNO.out q' hq' p hp i' h
                        · obtain rfl : i' = k := by omega
                          exact HN.out q' p hp, bdraw hb2 _⟩
                      case measure => simp [intOf]; omega
                  · have hmv := World.ownsMap.kept hMr (row := none) ⟨hb2.os, hb2.tape, hb2.output, hb2.size, fun i hi _ => hb2.block i hi⟩ (by simp)
                    have q02 := q0.below hb2
                    have hb3 := bthen hb hb2
                    have hD2 := (hb2.block _ (Array.getElem?_eq_some_iff.1 hD0).1).trans hD0
                    have hnone : ∀ q : Nat, q < b → ∀ p, ps[q]? = some p → stands l2 p = false := by
                      intro q hq p hp
                      cases hs : stands l2 p with
                      | false => rfl
                      | true =>
                        obtain ⟨i', hi', ha⟩ := (stands_iff _ _).1 hs
                        rw [HNO.out q hq p hp i' (by omega)] at ha
                        cases ha
                    have hmps := hv.hm
                    by_cases hbm2 : b < m
                    · obtain ⟨i', hi', p, hp, ha⟩ := HST.out hbm2
                      have hst : stands l2 p = true := (stands_iff _ _).2 ⟨i', hi', ha⟩
                      have hget : ps[b]'(by omega) = p := by
                        rw [List.getElem?_eq_getElem (by omega)] at hp
                        exact Option.some.inj hp
                      have hfi : ps.findIdx (stands l2) = b := findIdx_at (by omega) (by rw [hget]; exact hst) hnone
                      have hstep := joinAll_step (n := n) hfi (by omega)
                      obtain ⟨pb, po, rfl, y1, y2⟩ := (hv.below hb3).hy.pr b (by omega)
                      rw [hget] at hstep y1 y2
                      obtain ⟨xa, xb⟩ := p
                      simp only at y1 y2
                      have hlt2' := joined_lt (xa, xb) ((1 + n + b : Nat) : Int) _ l2 (Nat.le_refl _) hst
                      have hbd2 := joined_bd (p := (xa, xb)) (t := ((1 + n + b : Nat) : Int)) (by omega) _ l2 (Nat.le_refl _) hbd
                      have ea := addr_add pb po (b * 2)
                      have hcast : (n : Int) + 1 + (b : Int) = ((1 + n + b : Nat) : Int) := by omega
                      rw [← hcast] at hlt2' hbd2 hstep
                      have HS := Lib.hid hstep
                      have HBD := Lib.hid hbd2
                      have hw1 : IntKind.i64.wrap ((n : Int) + 1) = (n : Int) + 1 := IntWalk.i64_in _ (by omega)
                      have hw2 : IntKind.i64.wrap ((n : Int) + 1 + (b : Int)) = (n : Int) + 1 + (b : Int) := IntWalk.i64_in _ (by omega)
                      have hbmi : (b : Int) < (m : Int) := by omega
                      have hbne : ((b : Int) == (m : Int)) = false := by rw [beq_eq_false_iff_ne]; omega
                      obtain ⟨gl, cl', he⟩ := own_some ov2 (by omega)
                      cases he
                      clear hstep hbd2 hget hfi hp ha hst hnone HNO HST hcast
                      gi_wp2_with fail
                      refine wpIn_wide.2 ?_
                      go_still_tail 12, (by kernel_rfl)
                      go_wp2_with fail
                      have ov3 : wr.drew.ownsRow W.heap.size 3 1 (.slice (some ⟨gl, 0, none⟩) l2.length cl) l2.length (I64 l2) := ov2
                      have hgl := (own_lt ov2 gl rfl).1
                      have hDlt := (Array.getElem?_eq_some_iff.1 hD2).1
                      have hszW := a6.size
                      have hDne : D ≠ gl := fun he => by
                        rcases ov2.2 with ⟨h, _⟩ | ⟨g', cap', cur', he', _, hh, _⟩
                        · cases h
                        · injection he' with he'
                          injection he' with he'
                          injection he' with he'
                          rw [← he', ← he] at hh
                          rw [hh] at hD2
                          cases hD2
                      have hwne : w.heap.size ≠ gl := fun he => by
                        have h1 := q02.lt
                        have h2 := Blk.not_row q02 (by decide) ov2
                        exact h2 (by rw [he]; rfl)
                      refine (join_any W.heap.size gl l2.length cl l2 xa xb ((n : Int) + 1 + (b : Int)) _ rfl (by omega) ov3).mono ?_
                      rintro e w5 ⟨rfl, ow5, hg5⟩
                      have hm5 := World.ownsMap.kept hmv.drew hg5 (map_ne_own hmv.drew ov3)
                      have q5 := Blk.kept (Blk.drew q02) hg5 (by simpa using hwne)
                      have b5 : Below w.heap.size w w5 := (Below.drew hb3).grown hg5 hb3.size (fun j hj => by cases hj; omega)
                      have d5 : w5.heap[D]? = some (.deferred (some [])) := (hg5.block D hDlt (by simpa using hDne)).trans hD2
                      clear ov2 ov3 hmv q02 hb3 hD2 y1 y2
                      go_wp2
                      go_roundw
                      case rel => exact ⟨joined (xa, xb) ((n : Int) + 1 + (b : Int)) l2, ow5, HJ.out.trans HS.out, by omega, HBD.out, hm5, q5, b5, d5⟩
                      case measure => simp [lenV]; omega
                    · obtain rfl : b = m := by omega
                      have hr : joinAll n ps l2 = l2 := joinAll_none (findIdx_no (fun j hj => hnone j (by omega)))
                      have HL := Lib.hid hr
                      clear hr hnone HNO HST
                      gi_wp2_with fail
                      refine leaves_marks w.heap.size [D] _ (by simp) (fun D' h => by simp at h; subst h; exact ⟨by omega, hD2⟩) ?_
                      intro W4 hs
                      have hE : encL bs ps x = l2 := by rw [HY.out, if_pos NO.out, HJ.out, HL.out]
                      exact ⟨_, results_tmp2 rfl _ _ _, _, by rw [HR.out, if_pos NO.out]; rfl, by rw [hE]; exact own_base (own_sm ov2 hs) a6.size, Below.sm hb3 (Nat.le_refl _) (Nat.le_refl _) hs⟩
    clear hK
    have HKEY := Lib.hid key
    clear key
    have hit := all_iter A A' n m c c' bs ps w4.heap.size (w1.heap.size + 1 + 1) 9 w4 (hv.below hbC) hwf (by simpa using q4) (by decide)
    rw [htk] at hit
    refine range_it (gf := 41) (lb := #[.pointer (some ⟨w1.heap.size + 1 + 1, 0, none⟩)]) (N := ls.length) (X := Gives w4.heap.size ls) rfl (enters_of Try.func41 (by kernel_rfl) rfl) hit
      ?hps ?X (fun j W => j ≤ n + 1 ∧ (∃ Dm, W.ownsMap Try.prog 5 (plainElem Try.prog 3) w1.heap.size j Dm ∧ MapIs 5 Dm (kvO bs (j - 1))) ∧ Blk W (w1.heap.size + 1) #[.map (some w1.heap.size)] 63 ∧ Blk W w.heap.size #[.slice A n c, .slice A' m c'] 25 ∧ Below w.heap.size w W)
      (fun cd j W => cd = .exit 0 ∧ j = n + 2 ∧ (∃ Dm, W.ownsMap Try.prog 5 (plainElem Try.prog 3) w1.heap.size j Dm ∧ MapIs 5 Dm (kvO bs n)) ∧ Blk W (w1.heap.size + 1) #[.map (some w1.heap.size)] 63 ∧ Blk W w.heap.size #[.slice A n c, .slice A' m c'] 25 ∧ Below w.heap.size w W) ?I ?Ix ⟨by omega, ⟨_, qm, MapIs.nil 5⟩, q6, q0, hbC⟩
      (fun args => { tmps := #[.agg #[.slice A n c, .slice A' m c'], .slice T t ct, .pointer (some ⟨w.heap.size, 0, none⟩), undef, .slice none 0 0, .int .i64 0, .pointer (some ⟨w1.heap.size + 1, 0, none⟩), args.getD 0 undef, args.getD 1 undef, undef, undef, undef, undef, undef, undef, undef, undef, undef, undef, undef, undef, .agg #[.slice A n c, .slice A' m c'], .int .i64 0, .bool false, .map (some w1.heap.size), .agg #[.slice A n c, .slice A' m c'], .func (.func 41) #[] #[.pointer (some ⟨w1.heap.size + 1 + 1, 0, none⟩)], args.getD 0 undef, args.getD 1 undef, undef, undef, undef, undef, undef, undef, undef, undef, undef, undef, undef, undef, undef, undef, undef, undef, undef, undef, undef, undef, undef, undef, undef, undef, undef, undef, undef, undef, undef, undef, undef, undef, undef, undef, undef, undef, undef, undef, undef, undef, undef, undef, undef, undef, undef, undef, undef, undef, undef, undef, undef, undef, undef, undef, undef, undef, undef, undef, undef, undef, undef, undef, undef, undef, undef, undef, undef, undef, undef, undef, undef, undef, undef, undef, undef, undef, undef, undef, undef, undef, undef, undef, undef, undef, undef, undef, undef, undef, undef, undef, undef, undef, undef, undef, undef, undef, undef], defers := [] }) ?assign ?body ?done ?stop
    case hps =>
      rintro j args W ⟨v, rfl, _⟩
      rfl
    case X =>
      rintro j args W W' ⟨v, rfl, hv⟩ hs
      exact ⟨v, rfl, own_sm hv hs⟩
    case I =>
      rintro j W W' ⟨a1, ⟨Dm, a2, a3⟩, a4, a5, a6⟩ hs
      exact ⟨a1, ⟨Dm, ownsMap_sm a2 hMb hs, a3⟩, a4.sm hs, a5.sm hs, Below.sm a6 (by omega) (Nat.le_refl _) hs⟩
    case Ix =>
      rintro cd j W W' ⟨a0, a1, ⟨Dm, a2, a3⟩, a4, a5, a6⟩ hs
      exact ⟨a0, a1, ⟨Dm, ownsMap_sm a2 hMb hs, a3⟩, a4.sm hs, a5.sm hs, Below.sm a6 (by omega) (Nat.le_refl _) hs⟩
    case assign =>
      rintro l j args W K ⟨v, rfl, _⟩ hK
      obtain ⟨va, vcp, rfl, _, _⟩ := own_rd (by assumption)
      gi_wp2
      exact hK
    case body =>
      rintro l j args W ⟨a1, ⟨Dm, a2, a3⟩, a4, a5, a6⟩ ⟨v, rfl, ov⟩ hj hsz
      obtain ⟨va, vcp, rfl, _, _⟩ := own_rd ov
      have y0 : W.cell? ⟨w.heap.size, 0, none⟩ = some (.slice A n c) := a5.cell _
      have y6 : W.cell? ⟨w1.heap.size + 1, 0, none⟩ = some (.map (some w1.heap.size)) := a4.cell _
      by_cases hbk : j = n + 1
      · subst hbk
        have hgt : (n : Int) < ((n + 1 : Nat) : Int) := by omega
        gi_wp2
        exact ⟨Up.refl _ _, rfl, rfl, ⟨Dm, a2.mono (by omega), a3⟩, a4, a5, a6⟩
      · by_cases hj0 : j = 0
        · subst hj0
          gi_wp2
          exact ⟨Up.refl _ _, by omega, ⟨Dm, a2.mono (by omega), a3⟩, a4, a5, a6⟩
        · obtain ⟨i, rfl⟩ : ∃ i, j = i + 1 := ⟨j - 1, by omega⟩
          have hb0 : tok ls (i + 1) = [bs[i]'(by have := hv.hn; omega)] := hT.base i (by have := hv.hn; omega)
          have hsn := kvO_snoc bs i (by have := hv.hn; omega)
          have hmb : bs[i]'(by have := hv.hn; omega) ∈ bs := List.getElem_mem _
          have hnd := (nodup_take bs i (by have := hv.hn; omega)).1 (List.Nodup.sublist (List.take_sublist _ _) hT.nodup)
          generalize hz : bs[i]'(by have := hv.hn; omega) = z at *
          rw [hb0] at ov
          have r1 := own_rdA ov
          have hkey : keyOf Try.prog 5 (.int .u8 z) = some (.int .u8 z) := keyOf_int_mk Try.underlying5 (hwf.b z hmb)
          obtain ⟨bb, oo, rfl, y1⟩ := r1.b8 0 (by simp)
          simp only [List.getElem_cons_zero, Nat.add_zero] at y1
          have hij : ((i + 1 : Nat) : Int) = (i : Int) + 1 := by omega
          have hgt : ¬ ((n : Int) < (i : Int) + 1) := by omega
          have hl0 : (tok ls (i + 1)).length = 1 := by rw [hb0]; rfl
          rw [hij, hl0]
          obtain ⟨W2, hrun, r2, hg2⟩ := World.ownsMap.update (w := W.drew) a2 law5 Try.underlying63 (by unfold maxLen; omega) hkey (plainElem_int Try.underlying3 (WalkArith.wf_i64 (show -9223372036854775808 ≤ (i : Int) + 1 ∧ (i : Int) + 1 ≤ 9223372036854775807 by omega)))
          gi_wp2
          have hU : Up w4.heap.size W W2 := ⟨hg2.size, fun k hk hl => hg2.block k hl (by simp; omega)⟩
          have a4' := Blk.kept (Blk.drew a4) hg2 (by simp)
          have a5' := Blk.kept (Blk.drew a5) hg2 (by simp; omega)
          have a6' : Below w.heap.size w W2 := (Below.drew a6).grown hg2 a6.size (fun q hq => by cases hq; omega)
          have a3' : MapIs 5 (Dm.put (.int .u8 z) (.lit (.int .i64 ((i : Int) + 1)))) (kvO bs (i + 1)) := by
            have h3 : MapIs 5 Dm (kvO bs i) := a3
            rw [hsn]
            refine h3.put law5 hkey ?_
            rw [kvO_keys]
            intro hm
            obtain ⟨q, hq, he⟩ := List.mem_map.1 hm
            cases he
            exact hnd.2 hq
          gi_region
          all_goals
            gi_wp2
            exact ⟨hU, by omega, ⟨_, r2, a3'⟩, a4', a5', a6'⟩
    case done =>
      rintro D W hD ⟨a1, ⟨Dm, a2, a3⟩, a4, a5, a6⟩ hDd
      have hl1 := hT.len
      rw [hv.hn, hv.hm] at hl1
      have hl2 : ls.length = n + 1 := by omega
      rw [hl2] at a2 a3
      exact HKEY.out D W Dm hD hDd (a2.mono (by omega)) a3 a4 a5 a6
    case stop =>
      rintro D cd j W hD hj ⟨rfl, rfl, ⟨Dm, a2, a3⟩, a4, a5, a6⟩ hDd
      gi_wp2
      exact HKEY.out D W Dm hD hDd a2 a3 a4 a5 a6
end Go.Proofs.Ytobklhnechbpaaa
