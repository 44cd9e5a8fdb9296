import Derived.Test.YtobklhnechbpaaaPcs
import Derived.Test.YtobklhnechbpaaaRefc
namespace Go.Proofs.Ytobklhnechbpaaa
open Go.RowKit Go.Maps

/-- bytes and numbers of their kinds -/
structure Wf (bs : List Int) (ps : List (Int × Int)) : Prop where
  b : ∀ x ∈ bs, (Lit.int .u8 x).wf = true
  p : ∀ x ∈ ps, (Lit.int .i64 x.1).wf = true ∧ (Lit.int .i64 x.2).wf = true
/-- what pieces hands back: nothing, if it is no vocabulary; else the tokens' bytes, each in memory of its own -/
def PcsOut (w : World) (bs : List Int) (ps : List (Int × Int)) (e : Ending) (w' : World) : Prop :=
  Below w.heap.size w w' ∧ match vocF bs ps with
    | none => e = .returned (.slice none 0 0)
    | some ls => ∃ g cap vals, e = .returned (.slice (some ⟨g, 0, none⟩) ls.length cap) ∧ w'.ownsRow w.heap.size 22 1 (.slice (some ⟨g, 0, none⟩) ls.length cap) ls.length vals ∧ Pcs w' w.heap.size vals ls
theorem own_ne_map' {H : Type} {w : World} {k : TypeId} {R : Value → Option (DataW H × List MemPlace)} {b j : Nat} {D : DataW H} (hm : w.ownsMap Try.prog k R b j D) {base : Nat} {e : TypeId} {size n : Nat} {v : Value} {xs : List Value} (h : w.ownsRow base e size v n xs) : v.ownBlock = none ∨ v.ownBlock ≠ some b := by
  obtain ⟨es, clock, hb, _⟩ := hm
  exact own_ne_map hb h
theorem info22 : (Try.prog.info? 22).map (fun i => (i.zero, i.size, i.bytes)) = some (some (.slice none 0 0), 1, 24) := by kernel_rfl
theorem own_made1 (W : World) (base cap : Nat) (hb : base ≤ W.heap.size) (h1 : 1 ≤ cap) (hm : cap ≤ 64) :
    (W.alloc (.cells (madeCells #[.slice none 0 0] cap) 22)).ownsRow base 22 1 (.slice (some ⟨W.heap.size, 0, none⟩) 1 cap) 1 [.slice none 0 0] := by
  refine ⟨rfl, .inr ⟨W.heap.size, cap, _, rfl, hb, (MapKept.heap_alloc W _).1, h1, by simp only [maxLen]; omega, by simp [size_madeCells], ?_⟩⟩
  obtain ⟨c, rfl⟩ : ∃ c, cap = c + 1 := ⟨cap - 1, by omega⟩
  apply List.ext_getElem
  · simp [size_madeCells]
  · intro i h1 h2
    simp at h2
    subst h2
    simp [madeCells]

theorem map_ne_own {H : Type} {w : World} {k : TypeId} {R : Value → Option (DataW H × List MemPlace)} {b j : Nat} {D : DataW H} (hm : w.ownsMap Try.prog k R b j D) {base : Nat} {e : TypeId} {size n : Nat} {v : Value} {xs : List Value} (h : w.ownsRow base e size v n xs) : some b ≠ v.ownBlock := by
  intro he
  rcases own_ne_map' hm h with h1 | h1
  · rw [h1] at he; cases he
  · exact h1 he.symm
theorem Pcs.lt {w : World} {base : Nat} {vals : List Value} {ls : List (List Int)} (h : Pcs w base vals ls) (i : Nat) (u : Value) (hu : vals[i]? = some u) (j : Nat) (hj : u.ownBlock = some j) : base ≤ j ∧ j < w.heap.size := by
  have hi := (List.getElem?_eq_some_iff.1 hu).1
  have hl := h.len
  exact own_lt (h.own i u _ hu (List.getElem?_eq_getElem (by omega))) j hj
theorem Pcs.drew {w : World} {base : Nat} {vals : List Value} {ls : List (List Int)} (h : Pcs w base vals ls) : Pcs w.drew base vals ls := ⟨h.len, h.own, h.apart⟩
theorem own_some {w : World} {base : Nat} {e : TypeId} {size n : Nat} {v : Value} {xs : List Value} (h : w.ownsRow base e size v n xs) (hn : 0 < n) : ∃ g cap, v = .slice (some ⟨g, 0, none⟩) n cap := by
  rcases h.2 with ⟨rfl, h0⟩ | ⟨g, cap, cur, rfl, _⟩
  · omega
  · exact ⟨g, cap, rfl⟩
theorem own_cell {w : World} {base : Nat} {e : TypeId} {size n g cap : Nat} {xs : List Value} (h : w.ownsRow base e size (.slice (some ⟨g, 0, none⟩) n cap) n xs) (i : Nat) (v : Value) (hv : xs[i]? = some v) : w.cell? ⟨g, i, none⟩ = some v := by
  obtain ⟨hi, hv⟩ := List.getElem?_eq_some_iff.1 hv
  obtain ⟨b, o, he, hc⟩ := (own_rd' h).at i hi
  obtain ⟨rfl, rfl⟩ : g = b ∧ o = 0 := by
    simp only [Option.some.injEq, Addr.mk.injEq] at he
    exact ⟨he.1, he.2.1.symm⟩
  rw [Nat.zero_add] at hc
  rw [hc, hv]
theorem own_rdA {w : World} {base : Nat} {e : TypeId} {size n c : Nat} {A : Option Addr} {xs : List Value} (h : w.ownsRow base e size (.slice A n c) n xs) : Rd w A xs := by
  obtain ⟨A', c', he, _, hr⟩ := own_rd h
  injection he with h1
  rw [h1]
  exact hr
theorem fresh_of {v v1 : Value} {N s : Nat} (h : v1.ownBlock = v.ownBlock ∨ v1.ownBlock = some s) (h1 : ∀ j, v.ownBlock = some j → N ≤ j) (h2 : N ≤ s) : ∀ j, v1.ownBlock = some j → N ≤ j := by
  intro j hj
  rcases h with h | h
  · exact h1 j (h ▸ hj)
  · rw [h] at hj
    cases hj
    exact h2
theorem B8_one (xs : List Int) : ∀ u ∈ B8 xs, u.oneCell' = true := by
  intro u hu
  obtain ⟨x, _, rfl⟩ := List.mem_map.1 hu
  rfl
/-- the pairs as keys -/
def PV (ps : List (Int × Int)) : List Value := ps.map fun p => .agg #[.int .i64 p.1, .int .i64 p.2]
theorem PV_mem (ps : List (Int × Int)) (a b : Int) : (Value.agg #[.int .i64 a, .int .i64 b] ∈ PV ps) ↔ (a, b) ∈ ps := by
  show (_ ∈ ps.map _) ↔ _
  rw [List.mem_map]
  constructor
  · rintro ⟨⟨x, y⟩, hy, he⟩
    simp only [Value.agg.injEq, Array.mk.injEq, List.cons.injEq, Value.int.injEq, true_and, and_true] at he
    obtain ⟨rfl, rfl⟩ := he
    exact hy
  · exact fun hy => ⟨_, hy, rfl⟩
theorem PV_snoc (ps : List (Int × Int)) (a b : Int) : PV ps ++ [.agg #[.int .i64 a, .int .i64 b]] = PV (ps ++ [(a, b)]) := by simp [PV]

set_option maxRecDepth 100000 in
set_option maxHeartbeats 4000000 in
/-- bpe.pieces -/
theorem pieces_any (A A' : Option Addr) (n m c c' : Nat) (bs : List Int) (ps : List (Int × Int)) (w : World) (hv : Voc w A A' n m bs ps) (hwf : Wf bs ps) :
    Calls Try.prog 38 #[.agg #[.slice A n c, .slice A' m c']] w (PcsOut w bs ps) := by
  have h0 : Below w.heap.size w (w.alloc (.cells #[.slice A n c, .slice A' m c'] 25)) := by go_grown
  have q0 := Blk.new w #[.slice A n c, .slice A' m c'] 25
  have hv0 := hv
  obtain ⟨hn, hm, b1, b2, _, _⟩ := hv
  by_cases hfit : fits n m
  · obtain ⟨f1, f2, f3⟩ := hfit
    obtain ⟨i0, hi, hz0, hz1, hz2⟩ := info_parts info22
    have hmk : ∀ u : World, (Instr.makeSlice 55 (.int .i64 1) (.int .i64 (1 + (n : Int) + (m : Int)))).run Try.prog u = .ok (.slice (some ⟨u.heap.size, 0, none⟩) 1 (1 + n + m)) (u.alloc (.cells (madeCells #[.slice none 0 0] (1 + n + m)) 22)) := fun u => by
      have h := run_make (P := Try.prog) u 55 22 i0 (.slice none 0 0) Try.underlying55 hi hz0 .i64 .i64 1 (1 + (n : Int) + (m : Int)) (by omega) (by omega) (by rw [hz2]; omega) (by omega)
      have e : (1 + (n : Int) + (m : Int)).toNat = 1 + n + m := by omega
      rw [e, hz1, Nat.mul_one] at h
      exact h
    have hmm := @run_makeMap Try.prog
    go_enter Try.func38, Try.ntmps38
    go_wp2
    have s0 : Blk (((w.alloc (.cells #[.slice A n c, .slice A' m c'] 25)).alloc (.cells (madeCells #[.slice none 0 0] (1 + n + m)) 22)).alloc (.map #[] 0)) w.heap.size #[.slice A n c, .slice A' m c'] 25 := (q0.alloc _).alloc _
    have s1 : (((w.alloc (.cells #[.slice A n c, .slice A' m c'] 25)).alloc (.cells (madeCells #[.slice none 0 0] (1 + n + m)) 22)).alloc (.map #[] 0)).ownsRow w.heap.size 22 1 (.slice (some ⟨w.heap.size + 1, 0, none⟩) 1 (1 + n + m)) 1 [.slice none 0 0] := by
      have := (own_made1 (w.alloc (.cells #[.slice A n c, .slice A' m c'] 25)) w.heap.size (1 + n + m) (by simp) (by omega) f3).alloc (.map #[] 0)
      simpa using this
    have s2 : (((w.alloc (.cells #[.slice A n c, .slice A' m c'] 25)).alloc (.cells (madeCells #[.slice none 0 0] (1 + n + m)) 22)).alloc (.map #[] 0)).ownsMap Try.prog 5 (plainElem Try.prog 3) (w.heap.size + 1 + 1) 0 (.map [] : DataW Unit) := by
      have := World.ownsMap_made (H := Unit) ((w.alloc (.cells #[.slice A n c, .slice A' m c'] 25)).alloc (.cells (madeCells #[.slice none 0 0] (1 + n + m)) 22)) Try.prog 5 (plainElem Try.prog 3)
      simpa using this
    have s3 : Below w.heap.size w (((w.alloc (.cells #[.slice A n c, .slice A' m c'] 25)).alloc (.cells (madeCells #[.slice none 0 0] (1 + n + m)) 22)).alloc (.map #[] 0)) := by go_grown
    generalize ((w.alloc (.cells #[.slice A n c, .slice A' m c'] 25)).alloc (.cells (madeCells #[.slice none 0 0] (1 + n + m)) 22)).alloc (.map #[] 0) = w1 at *
    clear hmk h0 q0
    go_loopw [4, 45] (fun ov i wr => ∃ (k : Nat) (vals : List Value) (D : DataW Unit), k ≤ n ∧ i = .int .i64 (k : Int) ∧ (bs.take k).Nodup ∧ Blk wr w.heap.size #[.slice A n c, .slice A' m c'] 25 ∧ wr.ownsRow w.heap.size 22 1 ov (1 + k) vals ∧ Pcs wr w.heap.size vals (base0 (bs.take k)) ∧
      wr.ownsMap Try.prog 5 (plainElem Try.prog 3) (w.heap.size + 1 + 1) k D ∧ KeysAre 5 D (B8 (bs.take k)) ∧ Below w.heap.size w wr) (fun _ i _ => n - (intOf i).toNat)
    case atStart =>
      refine ⟨0, [.slice none 0 0], .map [], by omega, rfl, by simp, s0, s1, ⟨rfl, ?_, ?_⟩, s2, KeysAre.nil 5, s3⟩
      · intro i v l hv' hl
        have : i = 0 := by
          have := (List.getElem?_eq_some_iff.1 hv').1
          simp at this
          exact this
        subst this
        simp [base0] at hv' hl
        subst hv' hl
        exact World.ownsRow_nil _ _ _ _
      · intro i j v u hij hv' hu
        have h1 := (List.getElem?_eq_some_iff.1 hv').1
        have h2 := (List.getElem?_eq_some_iff.1 hu).1
        simp at h1 h2
        omega
    case round =>
      clear s0 s1 s2 s3
      obtain ⟨k, vals, D, hk, rfl, hnd, p0, po, pp, pm, pk, hb⟩ := hrel
      obtain ⟨oa, oc, rfl, _, _⟩ := own_rd po
      have ND := Lib.hid hnd
      clear hnd
      have x0 : wr.cell? ⟨w.heap.size, 0, none⟩ = some (.slice A n c) := p0.cell _
      have x1 : wr.cell? ⟨w.heap.size, 1, none⟩ = some (.slice A' m c') := p0.cell _
      by_cases hlt : k < n
      · obtain ⟨b, o, rfl, y1⟩ := (hv0.below hb).hx.b8 k (by omega)
        have ea := addr_add b o k
        have TK := Lib.hid (List.take_succ_eq_append_getElem (show k < bs.length by omega))
        have NT := Lib.hid (nodup_take bs k (by omega))
        have BT := Lib.hid (base0_take bs k (by omega))
        have hmemk : bs[k]'(by omega) ∈ bs := List.getElem_mem _
        generalize hxv : bs[k]'(by omega) = x at *
        have XV := Lib.hid hxv
        clear hxv
        have hkey : keyOf Try.prog 5 (.int .u8 x) = some (.int .u8 x) := keyOf_int_mk Try.underlying5 (hwf.b x hmemk)
        have hmem := pk.2 _ _ hkey
        have hB8 : (Value.int .u8 x ∈ B8 (bs.take k)) ↔ x ∈ bs.take k := by
          show (Value.int .u8 x ∈ (bs.take k).map (Value.int .u8)) ↔ _
          rw [List.mem_map]
          constructor
          · rintro ⟨y, hy, he⟩
            cases he
            exact hy
          · exact fun hy => ⟨_, hy, rfl⟩
        rw [hB8] at hmem
        clear hB8 hmemk
        by_cases hin : x ∈ bs.take k
        · have hh := hmem.2 hin
          have hr : vocF bs ps = none := by
            unfold vocF
            rw [if_neg (not_nodup_take bs k (by omega) (by rw [XV.out]; exact hin))]
            split <;> rfl
          have HR := Lib.hid hr
          have HK := Lib.hid hkey
          clear hr hmem hin hkey
          go_wp2_with (at_lookup; refine wpList_lookup_own_ok_int _ rfl _ _ 63 rfl 5 3 .i64 law5 Try.underlying63 Try.underlying3 (zero3 _) (w.heap.size + 1 + 1) k D rfl pm _ _ rfl HK.out ?_; intro cc hat hwc)
          go_returns
          exact ⟨hb, by rw [HR.out]; rfl⟩
        · have hh : Maps.has D (.int .u8 x) = false := by
            cases hq : Maps.has D (.int .u8 x) with
            | false => rfl
            | true => exact absurd (hmem.1 hq) hin
          have HIN := Lib.hid hin
          have HK := Lib.hid hkey
          clear hmem hin hkey
          go_wp2_with (first
            | (at_lookup; refine wpList_lookup_own_ok_int _ rfl _ _ 63 rfl 5 3 .i64 law5 Try.underlying63 Try.underlying3 (zero3 _) (w.heap.size + 1 + 1) k D rfl pm _ _ rfl HK.out ?_; intro cc hat hwc)
            | (at_mapUpdate; refine wpList_mapUpdate_own _ rfl _ _ _ 63 rfl 5 3 law5 Try.underlying63 _ (w.heap.size + 1 + 1) k _ rfl pm (by unfold maxLen; omega) _ _ _ rfl rfl HK.out _ [] (plainElem_int Try.underlying3 (WalkArith.wf_i64 (by omega))) ?_; intro w2 pm2 hg2; have q0 := p0.kept hg2 (by simp; omega); have qo := World.ownsRow.kept po hg2 (own_ne_map' pm po); have qp := Pcs.kept pp hg2 (fun i v l _ hv => own_ne_map' pm hv); have qb : Below w.heap.size w w2 := hb.grown hg2 hb.size (fun j hj => by cases hj; omega))
            | (at_builtin; refine app (w0 := w) w.heap.size rfl _ _ 55 22 (.slice none 0 0) 1 24 rfl Try.underlying55 info22 rfl (by decide) (by decide) (.slice oa (1 + k) oc) (1 + k) vals #[.slice (some ⟨w2.heap.size, 0, none⟩) 1 1] rfl (by simp [Act.eval]) rfl (by simp [Value.oneCell']) (qo.alloc (.cells #[.int .u8 x] 5)) (qb.alloc qb.size (.cells #[.int .u8 x] 5)) (by have := qb.size; simp; omega) (by omega) ?_; intro g cap w3 ow hb3 hg3 hat))
          go_roundw
          case rel =>
            have n1 := World.ownsRow_lit (base := w.heap.size) (e := 5) (size := 1) w2 #[.int .u8 x] 1 qb.size (by unfold maxLen; omega) rfl
            refine ⟨k + 1, vals ++ [.slice (some ⟨w2.heap.size, 0, none⟩) 1 1], D.put (.int .u8 x) (DataW.lit (.int .i64 k)), by omega, by go_num, NT.out.2 ⟨ND.out, HIN.out⟩, ?_, ow, ?_, ?_, ?_, hb3⟩
            · exact Blk.kept (q0.alloc _) hg3 (Blk.not_row (q0.alloc (.cells #[.int .u8 x] 5)) (by decide) (qo.alloc _))
            · rw [BT.out]
              refine Pcs.snoc (l := [x]) ((qp.alloc _).kept hg3 (fun i v l _ hv => own_type_ne hv (qo.alloc (.cells #[.int .u8 x] 5)) (by decide))) (World.ownsRow.kept n1 hg3 (own_type_ne n1 (qo.alloc (.cells #[.int .u8 x] 5)) (by decide))) ?_
              intro i u hu
              refine .inr fun he => ?_
              have := qp.lt i u hu w2.heap.size (by rw [← he]; rfl)
              omega
            · exact World.ownsMap.kept (pm2.alloc _) hg3 (map_ne_own (pm2.alloc (.cells #[.int .u8 x] 5)) (qo.alloc _))
            · rw [TK.out, ← B8_snoc]
              exact pk.put law5 HK.out _
          case measure => simp [intOf]; omega
      · have hnd : bs.Nodup := by
          have := ND.out
          rwa [List.take_of_length_le (by omega)] at this
        have hvf : vocF bs ps = build [] ps (base0 bs) := by
          unfold vocF
          rw [hn, hm, if_pos ⟨f1, f2, f3⟩, if_pos hnd]
        have HV := Lib.hid hvf
        obtain rfl : n = k := by omega
        rw [List.take_of_length_le (by omega)] at pp
        clear hnd hvf ND pk pm
        have s0 := p0.alloc (.map #[] 0)
        have x1' : (wr.alloc (.map #[] 0)).cell? ⟨w.heap.size, 1, none⟩ = some (.slice A' m c') := s0.cell _
        go_wp2
        have s1 := po.alloc (.map #[] 0)
        have s2 : (wr.alloc (.map #[] 0)).ownsMap Try.prog 51 (plainElem Try.prog 3) wr.heap.size 0 (.map [] : DataW Unit) := World.ownsMap_made (H := Unit) wr Try.prog 51 (plainElem Try.prog 3)
        have s3 := pp.alloc (.map #[] 0)
        have s4 := hb.alloc hb.size (.map #[] 0)
        have hD := p0.lt
        clear p0 po pp hb x0 x1 x1'
        generalize wr.alloc (.map #[] 0) = w2 at *
        generalize wr.heap.size = M at *
        go_loopw [4, 70] (fun ov i wr => ∃ (k : Nat) (out : List (List Int)) (vals : List Value) (D : DataW Unit), k ≤ m ∧ i = .int .i64 (k : Int) ∧ out.length = 1 + n + k ∧ (∀ l ∈ out, l.length ≤ 16) ∧ build [] ps (base0 bs) = build (ps.take k) (ps.drop k) out ∧
          Blk wr w.heap.size #[.slice A n c, .slice A' m c'] 25 ∧ wr.ownsRow w.heap.size 22 1 ov (1 + n + k) vals ∧ Pcs wr w.heap.size vals out ∧ wr.ownsMap Try.prog 51 (plainElem Try.prog 3) M k D ∧ KeysAre 51 D (PV (ps.take k)) ∧ Below w.heap.size w wr) (fun _ i _ => m - (intOf i).toNat)
        case atStart => exact ⟨0, base0 bs, vals, .map [], by omega, rfl, by rw [base0_length]; omega, by intro l hl; simp only [base0, List.mem_cons, List.mem_map] at hl; rcases hl with rfl | ⟨b, _, rfl⟩ <;> simp, by simp, s0, s1, s3, s2, KeysAre.nil 51, s4⟩
        case round =>
          clear s0 s1 s2 s3 s4
          obtain ⟨k, out, vals, D, hk, rfl, ho, hsm, hbd, p0, po, pp, pm, pk, hb⟩ := hrel
          obtain ⟨og, oc, rfl⟩ := own_some po (by omega)
          have x0 : wr.cell? ⟨w.heap.size, 0, none⟩ = some (.slice A n c) := p0.cell _
          have x1 : wr.cell? ⟨w.heap.size, 1, none⟩ = some (.slice A' m c') := p0.cell _
          have SM := Lib.hid hsm
          have HO := Lib.hid ho
          have HB := Lib.hid hbd
          clear hsm ho hbd
          by_cases hlt : k < m
          · obtain ⟨b, o, rfl, y1, y2⟩ := (hv0.below hb).hy.pr k (by omega)
            have DC := Lib.hid (drop_cons ps k (by omega))
            have ea := addr_add b o (k * 2)
            have ea1 : (⟨b, o + k * 2, none⟩ : Addr).add 1 = ⟨b, o + k * 2 + 1, none⟩ := addr_add b (o + k * 2) 1
            have hmemk : ps[k]'(by omega) ∈ ps := List.getElem_mem _
            have wfx := hwf.p _ hmemk
            clear hmemk
            generalize hxv : ps[k]'(by omega) = x at *
            obtain ⟨xa, xb⟩ := x
            simp only at y1 y2 wfx
            have XV := Lib.hid hxv
            clear hxv
            have TK := Lib.hid (List.take_succ_eq_append_getElem (show k < ps.length by omega))
            rw [XV.out] at TK
            obtain ⟨kl, hkey⟩ := key51 xa xb wfx.1 wfx.2
            have hmem := pk.2 _ _ hkey
            rw [PV_mem] at hmem
            have HK := Lib.hid hkey
            clear hkey wfx
            by_cases hin : (xa, xb) ∈ ps.take k
            · have hh := hmem.2 hin
              have hr : vocF bs ps = none := by
                rw [HV.out, HB.out, DC.out, build_none_seen (.inl hin)]
              have HR := Lib.hid hr
              clear hr hmem hin
              go_wp2_with (at_lookup; refine wpList_lookup_own_ok_int _ rfl _ _ 65 rfl 51 3 .i64 law51 Try.underlying65 Try.underlying3 (zero3 _) M k D rfl (pm.alloc _) _ _ rfl HK.out ?_; intro cc hat hwc)
              go_returns
              exact ⟨hb.alloc hb.size _, by rw [HR.out]; rfl⟩
            · have hh : Maps.has D kl = false := by
                cases hq : Maps.has D kl with
                | false => rfl
                | true => exact absurd (hmem.1 hq) hin
              by_cases hbad : xa < 1 ∨ xb < 1 ∨ (1 + n + k : Int) ≤ xa ∨ (1 + n + k : Int) ≤ xb
              · have hr : vocF bs ps = none := by
                  have ho := HO.out
                  rw [HV.out, HB.out, DC.out, build_none_seen (.inr (by omega))]
                have HR := Lib.hid hr
                clear hr hmem hin
                by_cases z1 : xa < 1
                · clear hbad
                  go_wp2_with (at_lookup; refine wpList_lookup_own_ok_int _ rfl _ _ 65 rfl 51 3 .i64 law51 Try.underlying65 Try.underlying3 (zero3 _) M k D rfl (pm.alloc _) _ _ rfl HK.out ?_; intro cc hat hwc)
                  go_returns
                  exact ⟨hb.alloc hb.size _, by rw [HR.out]; rfl⟩
                · by_cases z2 : xb < 1
                  · clear hbad
                    go_wp2_with (at_lookup; refine wpList_lookup_own_ok_int _ rfl _ _ 65 rfl 51 3 .i64 law51 Try.underlying65 Try.underlying3 (zero3 _) M k D rfl (pm.alloc _) _ _ rfl HK.out ?_; intro cc hat hwc)
                    go_returns
                    exact ⟨hb.alloc hb.size _, by rw [HR.out]; rfl⟩
                  · by_cases z3 : (1 + n + k : Int) ≤ xa
                    · clear hbad
                      go_wp2_with (at_lookup; refine wpList_lookup_own_ok_int _ rfl _ _ 65 rfl 51 3 .i64 law51 Try.underlying65 Try.underlying3 (zero3 _) M k D rfl (pm.alloc _) _ _ rfl HK.out ?_; intro cc hat hwc)
                      go_returns
                      exact ⟨hb.alloc hb.size _, by rw [HR.out]; rfl⟩
                    · have z4 : (1 + n + k : Int) ≤ xb := by omega
                      clear hbad
                      go_wp2_with (at_lookup; refine wpList_lookup_own_ok_int _ rfl _ _ 65 rfl 51 3 .i64 law51 Try.underlying65 Try.underlying3 (zero3 _) M k D rfl (pm.alloc _) _ _ rfl HK.out ?_; intro cc hat hwc)
                      go_returns
                      exact ⟨hb.alloc hb.size _, by rw [HR.out]; rfl⟩
              · have hbad' : (¬ ((xa, xb) ∈ ps.take k ∨ (xa, xb).1 < 1 ∨ (xa, xb).2 < 1 ∨ (out.length : Int) ≤ (xa, xb).1 ∨ (out.length : Int) ≤ (xa, xb).2)) := by
                  have ho := HO.out
                  rintro (h | h)
                  · exact hin h
                  · simp only at h; omega
                have HBAD := Lib.hid hbad'
                clear hbad'
                obtain ⟨na, rfl, a1, a2⟩ : ∃ na : Nat, xa = (na : Int) ∧ 1 ≤ na ∧ na < 1 + n + k := ⟨xa.toNat, by omega, by omega, by omega⟩
                obtain ⟨nb, rfl, b1', b2'⟩ : ∃ nb : Nat, xb = (nb : Int) ∧ 1 ≤ nb ∧ nb < 1 + n + k := ⟨xb.toNat, by omega, by omega, by omega⟩
                clear hbad hin hmem
                have ho := HO.out
                obtain ⟨va, hva, ova⟩ := pp.get na (by omega)
                obtain ⟨vb, hvb, ovb⟩ := pp.get nb (by omega)
                have hla16 : (out.getD na []).length ≤ 16 := by
                  rw [List.getD_eq_getElem?_getD, List.getElem?_eq_getElem (show na < out.length by omega)]
                  exact SM.out _ (List.getElem_mem _)
                have hlb16 : (out.getD nb []).length ≤ 16 := by
                  rw [List.getD_eq_getElem?_getD, List.getElem?_eq_getElem (show nb < out.length by omega)]
                  exact SM.out _ (List.getElem_mem _)
                have hST : ¬ (16 < (out.getD (na : Int).toNat [] ++ out.getD (nb : Int).toNat []).length) → build (ps.take k) (ps.drop k) out = build (ps.take (k + 1)) (ps.drop (k + 1)) (out ++ [out.getD na [] ++ out.getD nb []]) := by
                  intro hlong
                  have hst := build_step (rest := ps.drop (k + 1)) HBAD.out hlong
                  rw [← DC.out, ← TK.out] at hst
                  simpa using hst
                have hLG : 16 < (out.getD na [] ++ out.getD nb []).length → vocF bs ps = none := by
                  intro hlong
                  rw [HV.out, HB.out, DC.out, build_none_long (by simpa using hlong)]
                have hst := hST
                rw [Int.toNat_natCast, Int.toNat_natCast] at hst
                clear hST ho
                generalize out.getD na [] = la at *
                generalize out.getD nb [] = lb at *
                obtain ⟨Aa, ca, rfl, _, ra⟩ := own_rd ova
                obtain ⟨Ab, cb, rfl, _, rb⟩ := own_rd ovb
                have STEP := Lib.hid hst
                have LONG := Lib.hid hLG
                clear hst hLG
                have ea2 : (⟨og, 0, none⟩ : Addr).add na = ⟨og, na, none⟩ := by simpa using addr_add og 0 na
                have ea3 : (⟨og, 0, none⟩ : Addr).add nb = ⟨og, nb, none⟩ := by simpa using addr_add og 0 nb
                go_wp2_with (first
                  | (at_lookup; refine wpList_lookup_own_ok_int _ rfl _ _ 65 rfl 51 3 .i64 law51 Try.underlying65 Try.underlying3 (zero3 _) M k D rfl (pm.alloc _) _ _ rfl HK.out ?_; intro cc hat hwc)
                  | (at_mapUpdate; refine wpList_mapUpdate_own _ rfl _ _ _ 65 rfl 51 3 law51 Try.underlying65 _ M k _ rfl (pm.alloc _) (by unfold maxLen; omega) _ _ _ rfl rfl HK.out _ [] (plainElem_int Try.underlying3 (WalkArith.wf_i64 (by omega))) ?_; intro w3 pm2 hg2))
                have hM := pm.lt
                have hP := Nat.ne_of_gt hM
                have q3 := Blk.kept (Blk.new wr #[.int .i64 (na : Int), .int .i64 (nb : Int)] 51) hg2 (by simpa using hP)
                have p3 := Blk.kept (p0.alloc _) hg2 (by simp; omega)
                have po3 := World.ownsRow.kept (po.alloc _) hg2 (own_ne_map' (pm.alloc (.cells #[.int .i64 (na : Int), .int .i64 (nb : Int)] 51)) (po.alloc _))
                have pmA := pm.alloc (.cells #[.int .i64 (na : Int), .int .i64 (nb : Int)] 51)
                have pp3 := Pcs.kept (pp.alloc _) hg2 (fun i v l _ hv => own_ne_map' pmA hv)
                have ova3 := World.ownsRow.kept (ova.alloc _) hg2 (own_ne_map' pmA (ova.alloc _))
                have ovb3 := World.ownsRow.kept (ovb.alloc _) hg2 (own_ne_map' pmA (ovb.alloc _))
                have hb3 : Below w.heap.size w w3 := (hb.alloc hb.size _).grown hg2 (by have := hb.size; simp; omega) (fun j hj => by cases hj; omega)
                have hs3 : wr.heap.size < w3.heap.size := q3.lt
                generalize wr.heap.size = P at *
                clear hg2 hM hP p0 po pp pm pmA hb y1 y2 x0 x1 ea ea1 ova ovb ra rb hh hat hwc
                have c1 : w3.cell? ⟨P, 0, none⟩ = some (.int .i64 (na : Int)) := q3.cell _
                have c2 : w3.cell? ⟨P, 1, none⟩ = some (.int .i64 (nb : Int)) := q3.cell _
                have c3 := own_cell po3 na _ hva
                have c4 := own_cell po3 nb _ hvb
                have q4 := Blk.alloc (Blk.drew q3) (.cells #[] 5)
                have p4 := Blk.alloc (Blk.drew p3) (.cells #[] 5)
                have po4 := World.ownsRow.alloc (w := w3.drew) po3 (.cells #[] 5)
                have pp4 := Pcs.alloc (Pcs.drew pp3) (.cells #[] 5)
                have pm4 := World.ownsMap.alloc (w := w3.drew) pm2 (.cells #[] 5)
                have ra4 := own_rdA (World.ownsRow.alloc (w := w3.drew) ova3 (.cells #[] 5))
                have ovb4 := World.ownsRow.alloc (w := w3.drew) ovb3 (.cells #[] 5)
                have hfresh : ∀ (i : Nat) (v : Value), vals[i]? = some v → ∀ (row : Option Nat), (∀ j, row = some j → w3.heap.size ≤ j) → v.ownBlock = none ∨ v.ownBlock ≠ row := by
                  intro i v hv row hr
                  cases ho : v.ownBlock with
                  | none => exact .inl rfl
                  | some q =>
                    refine .inr fun he => ?_
                    have h1 := (pp3.lt i v hv q ho).2
                    have h2 := hr q he.symm
                    omega
                have hb4 := Below.alloc hb3.drew (show w.heap.size ≤ w3.drew.heap.size from hb3.size) (.cells #[] 5)
                have om4 := World.ownsRow_lit (base := w.heap.size) (e := 5) (size := 1) w3.drew #[] 0 (show w.heap.size ≤ w3.drew.heap.size from hb3.size) (by unfold maxLen; omega) rfl
                have d1 : (w3.drew.alloc (.cells #[] 5)).cell? ⟨P, 0, none⟩ = some (.int .i64 (na : Int)) := q4.cell _
                have d2 : (w3.drew.alloc (.cells #[] 5)).cell? ⟨P, 1, none⟩ = some (.int .i64 (nb : Int)) := q4.cell _
                have d3 := own_cell po4 na _ hva
                have d4 := own_cell po4 nb _ hvb
                go_region_held3 (fun w' => w'.cell? ⟨P, 0, none⟩ = some (.int .i64 (na : Int)) ∧ w'.cell? ⟨P, 1, none⟩ = some (.int .i64 (nb : Int)) ∧ w'.cell? ⟨og, na, none⟩ = some (.slice Aa la.length ca) ∧ w'.cell? ⟨og, nb, none⟩ = some (.slice Ab lb.length cb)) (first | exact ⟨‹_›, ‹_›, ‹_›, ‹_›⟩ | exact ‹_›)
                  (first | (refine appRowStep (w0 := w) w.heap.size rfl _ _ 22 5 (.int .u8 0) 1 rfl Try.underlying22 info5 rfl (by decide) (.slice (some ⟨w3.heap.size, 0, none⟩) 0 0) 0 [] Aa la.length ca (B8 la) rfl rfl (B8_length la) (B8_one la) ra4 om4 hb4 hb4.size (by omega) ?_; intro v1 w4 o1 hb5 hg5 hat5; rw [Nat.zero_add, List.nil_append] at o1; have hf5 : ∀ j, v1.ownBlock = some j → w3.heap.size ≤ j := fresh_of hat5 (fun j hj => by cases hj; exact Nat.le_refl _) (by simp); have q5 := Blk.kept q4 hg5 (Blk.not_row q4 (by decide) om4); have p5 := Blk.kept p4 hg5 (Blk.not_row p4 (by decide) om4); have po5 := World.ownsRow.kept po4 hg5 (own_type_ne po4 om4 (by decide)); have pp5 := Pcs.kept pp4 hg5 (fun i v l hv _ => hfresh i v hv _ (fun j hj => by cases hj; exact Nat.le_refl _)); have pm5 := World.ownsMap.kept pm4 hg5 (map_ne_own pm4 om4); have ovb5 := World.ownsRow.kept ovb4 hg5 (hfresh nb _ hvb _ (fun j hj => by cases hj; exact Nat.le_refl _)); have e1 : w4.cell? ⟨P, 0, none⟩ = some (.int .i64 (na : Int)) := q5.cell _; have e2 : w4.cell? ⟨P, 1, none⟩ = some (.int .i64 (nb : Int)) := q5.cell _; have e3 := own_cell po5 na _ hva; have e4 := own_cell po5 nb _ hvb) | (refine appRowStep (w0 := w) w.heap.size rfl _ _ 22 5 (.int .u8 0) 1 rfl Try.underlying22 info5 rfl (by decide) v1 la.length (B8 la) Ab lb.length cb (B8 lb) rfl rfl (B8_length lb) (B8_one lb) (own_rdA ovb5) o1 hb5 hb5.size (by omega) ?_; intro v2 w5 o2 hb6 hg6 hat6; have hf6 : ∀ j, v2.ownBlock = some j → w3.heap.size ≤ j := fresh_of hat6 hf5 (by have := hg5.size; simp at this; omega); have q6 := Blk.kept q5 hg6 (Blk.not_row q5 (by decide) o1); have p6 := Blk.kept p5 hg6 (Blk.not_row p5 (by decide) o1); have po6 := World.ownsRow.kept po5 hg6 (own_type_ne po5 o1 (by decide)); have pp6 := Pcs.kept pp5 hg6 (fun i v l hv _ => hfresh i v hv _ hf5); have pm6 := World.ownsMap.kept pm5 hg6 (map_ne_own pm5 o1); have f1 : w5.cell? ⟨P, 0, none⟩ = some (.int .i64 (na : Int)) := q6.cell _; have f2 : w5.cell? ⟨P, 1, none⟩ = some (.int .i64 (nb : Int)) := q6.cell _; have f3 := own_cell po6 na _ hva; have f4 := own_cell po6 nb _ hvb))
                all_goals
                  obtain ⟨A2, c2', rfl, _, _⟩ := own_rd o2
                  have hlen : (la ++ lb).length = la.length + lb.length := List.length_append
                  by_cases hlong : 16 < la.length + lb.length
                  · have hr := LONG.out (by rw [hlen]; exact hlong)
                    have HR := Lib.hid hr
                    clear hr hlen
                    go_wp2
                    go_returns
                    exact ⟨hb6, by rw [HR.out]; rfl⟩
                  · have hst := STEP.out (by rw [hlen]; exact hlong)
                    have ST := Lib.hid hst
                    have HLE := Lib.hid hlen
                    clear hst hlen
                    go_wp2_with (at_builtin; refine app (w0 := w) w.heap.size rfl _ _ 55 22 (.slice none 0 0) 1 24 rfl Try.underlying55 info22 rfl (by decide) (by decide) (.slice (some ⟨og, 0, none⟩) (1 + n + k) oc) (1 + n + k) vals #[.slice A2 (la.length + lb.length) c2'] rfl (by simp [Act.eval]) rfl (by simp [Value.oneCell']) po6 hb6 hb6.size (by omega) ?_; intro g cap w6 ow hb7 hg7 hat7)
                    go_roundw
                    case rel =>
                      refine ⟨k + 1, out ++ [la ++ lb], vals ++ [.slice A2 (la.length + lb.length) c2'], D.put kl (DataW.lit (.int .i64 k)), by omega, by go_num, by have := HO.out; simp; omega, ?_, by rw [HB.out, ST.out], ?_, ow, ?_, ?_, ?_, hb7⟩
                      · intro l hl
                        rcases List.mem_append.1 hl with hl | hl
                        · exact SM.out l hl
                        · simp only [List.mem_singleton] at hl
                          subst hl
                          rw [HLE.out]
                          omega
                      · exact Blk.kept p6 hg7 (Blk.not_row p6 (by decide) po6)
                      · refine Pcs.snoc (Pcs.kept pp6 hg7 (fun i v l _ hv => own_type_ne hv po6 (by decide))) (by rw [HLE.out]; have := World.ownsRow.kept o2 hg7 (own_type_ne o2 po6 (by decide)); rwa [← B8_append] at this) ?_
                        intro i u hu
                        cases hA : (Value.slice A2 (la.length + lb.length) c2').ownBlock with
                        | none => exact .inl rfl
                        | some q =>
                          refine .inr fun he => ?_
                          have h1 := (pp3.lt i u hu q he.symm).2
                          have h2 := hf6 q hA
                          omega
                      · exact World.ownsMap.kept pm6 hg7 (map_ne_own pm6 po6)
                      · rw [TK.out, ← PV_snoc]
                        exact pk.put law51 HK.out _
                    case measure => simp [intOf]; omega
          · have hr : vocF bs ps = some out := by
              rw [HV.out, HB.out, List.drop_of_length_le (by omega)]
              rfl
            have HR := Lib.hid hr
            clear hr
            obtain rfl : m = k := by omega
            go_wp2
            go_returns
            exact ⟨hb, by rw [HR.out]; exact ⟨og, oc, vals, by rw [HO.out]; rfl, by rw [HO.out]; exact po, pp⟩⟩
  · have hr : vocF bs ps = none := by
      unfold vocF
      rw [hn, hm, if_neg hfit]
    have HR := Lib.hid hr
    clear hr
    have hcase : n < 1 ∨ 48 < n ∨ 64 < 1 + n + m := by
      unfold fits at hfit
      omega
    clear hfit
    by_cases z1 : n < 1
    · go_enter Try.func38, Try.ntmps38
      go_wp2
      go_returns
      exact ⟨h0, by rw [HR.out]; rfl⟩
    · by_cases z2 : 48 < n
      · go_enter Try.func38, Try.ntmps38
        go_wp2
        go_returns
        exact ⟨h0, by rw [HR.out]; rfl⟩
      · have z3 : 64 < 1 + n + m := by omega
        clear hcase
        go_enter Try.func38, Try.ntmps38
        go_wp2
        go_returns
        exact ⟨h0, by rw [HR.out]; rfl⟩
end Go.Proofs.Ytobklhnechbpaaa
