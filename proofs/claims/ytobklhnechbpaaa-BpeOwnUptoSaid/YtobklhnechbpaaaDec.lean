import Derived.Test.YtobklhnechbpaaaBytesW
namespace Go.Proofs.Ytobklhnechbpaaa
open Go.RowKit

section
variable {P : Program} {ops : Array Oper} {rest : List Oper} {o : Oper} {a : Act} {Q : Exit → Act → World → Prop}
/-- append(v, ys...) onto a slice of the call's own: ys a slice that is read, nil too. -/
theorem appRow {w0 W : World} (base : Nat) (hgd : o.guard = none) (s x : Operand) (t e : TypeId) (z : Value) (bytes : Nat)
    (ho : o.op = .call { callee := .builtin .append, args := #[s, x], argTypes := #[t, t] })
    (ht : P.underlying t = some (.slice e)) (hinfo : (P.info? e).map (fun i => (i.zero, i.size, i.bytes)) = some (some z, 1, bytes)) (hzs : z.cells.size = 1) (hb0 : 0 < bytes)
    (v : Value) (n : Nat) (xs : List Value) (A : Option Addr) (m c : Nat) (ys : List Value) (hs : a.eval s = v) (hx : a.eval x = .slice A m c) (hl : ys.length = m) (h1 : ∀ u ∈ ys, u.oneCell' = true) (hr : Rd W A ys)
    (HO : W.ownsRow base e 1 v n xs) (HB : Below base w0 W) (hbase : base ≤ W.heap.size) (hle : (n + m) * bytes ≤ 140737488355328)
    (h : ∀ v1 w1, w1.ownsRow base e 1 v1 (n + m) (xs ++ ys) → Below base w0 w1 → W.grownBy w1 v.ownBlock → (v1.ownBlock = v.ownBlock ∨ v1.ownBlock = some W.heap.size) → wpList P ops Q rest (a.put o.dst v1) w1) :
    wpList P ops Q (o :: rest) a W := by
  refine wpList_plain hgd fun K' hK' => ?_
  have := appRowStep (P := P) (ops := ops) (Q := Q) (K := K') (E := True) (w0 := w0) (W := W) base hgd s x t e z bytes ho ht hinfo hzs hb0 v n xs A m c ys hs hx hl h1 hr HO HB hbase hle (fun v1 w1 a1 a2 a3 a4 => hK' _ _ (h v1 w1 a1 a2 a3 a4))
  have hw : Region.wanted o (yielded ops a.tmps) = true := by simp [Region.wanted, hgd]
  rw [if_pos hw] at this
  exact this
end

/-- what Decode answers -/
def okTok (k : Nat) (x : Int) : Bool := decide (0 ≤ x ∧ x < (k : Int))
def flat (ls : List (List Int)) (l : List Int) : List Int := l.flatMap fun x => tok ls x.toNat
def errD (bs : List Int) (ps : List (Int × Int)) (l : List Int) : Int := match vocF bs ps with | none => 50 | some ls => if l.all (okTok ls.length) then 0 else 52
def bytD (bs : List Int) (ps : List (Int × Int)) (l : List Int) : List Int := match vocF bs ps with | none => [] | some ls => if l.all (okTok ls.length) then flat ls l else []
theorem flat_small {bs : List Int} {ps : List (Int × Int)} {ls : List (List Int)} (hT : Toks bs ps ls) (l : List Int) : (flat ls l).length ≤ 16 * l.length := by
  induction l with
  | nil => simp [flat]
  | cons x r ih =>
    have h1 : (tok ls x.toNat).length ≤ 16 := hT.small _
    simp only [flat, List.flatMap_cons, List.length_append, List.length_cons] at *
    omega
theorem flat_snoc (ls : List (List Int)) (l : List Int) (x : Int) : flat ls (l ++ [x]) = flat ls l ++ tok ls x.toNat := by simp [flat]

set_option maxRecDepth 100000 in
set_option maxHeartbeats 2000000 in
/-- bpe.Decode -/
theorem decode_any (A A' T : Option Addr) (n m t c c' ct : Nat) (bs : List Int) (ps : List (Int × Int)) (l : List Int) (w : World) (hv : Voc w A A' n m bs ps) (hwf : Wf bs ps) (hl : l.length = t) (ht : Rd w T (I64 l)) (hs : t ≤ 8388608) :
    Calls Try.prog 22 #[.agg #[.slice A n c, .slice A' m c'], .slice T t ct] w fun e w' => ∃ v, e = .returned (.tuple #[v, .int .i64 (errD bs ps l)]) ∧ w'.ownsRow w.heap.size 5 1 v (bytD bs ps l).length (B8 (bytD bs ps l)) ∧ Below w.heap.size w w' := by
  have h0 : Below w.heap.size w (w.alloc (.cells #[.slice A n c, .slice A' m c'] 25)) := by go_grown
  have eN := eN55
  go_enter Try.func22, Try.ntmps22
  go_wp2_with fail
  refine (pieces_any A A' n m c c' bs ps _ (hv.below h0) hwf).mono ?_
  rintro e w1 ⟨hb, hp⟩
  replace hb := bthen h0 hb
  cases hq : vocF bs ps with
  | none =>
    have he : errD bs ps l = 50 := by unfold errD; rw [hq]
    have hy : bytD bs ps l = [] := by unfold bytD; rw [hq]
    rw [hq] at hp
    have HR := Lib.hid he
    have HY := Lib.hid hy
    clear he hq hy
    subst hp
    go_wp2
    go_returns
    refine ⟨.slice none 0 0, by rw [HR.out]; rfl, ?_, hb⟩
    rw [HY.out]
    exact World.ownsRow_nil _ _ _ _
  | some ls =>
    have hT := toks_of hq
    have h1 := hT.len
    have h2 := hT.n64
    obtain ⟨hlb, hnn⟩ : ls.length ≤ 64 ∧ 0 < ls.length := by omega
    have he : errD bs ps l = if l.all (okTok ls.length) then 0 else 52 := by unfold errD; rw [hq]
    have hy : bytD bs ps l = if l.all (okTok ls.length) then flat ls l else [] := by unfold bytD; rw [hq]
    rw [hq] at hp
    obtain ⟨g, cap, vals, rfl, ho, hp⟩ := hp
    clear hq h1 h2
    have HR := Lib.hid he
    have HY := Lib.hid hy
    clear he hy
    replace ht := ht.below hb
    have hfz : ∀ (i : Nat) (v : Value), vals[i]? = some v → ∀ j, v.ownBlock = some j → j < w1.heap.size := fun i v hv j hj => (hp.lt i v hv j hj).2
    go_wp2
    go_loopw [7, 16] (fun ov i wr => ∃ k : Nat, k ≤ t ∧ i = .int .i64 (k : Int) ∧ (l.take k).all (okTok ls.length) = true ∧ wr.ownsRow w1.heap.size 5 1 ov (flat ls (l.take k)).length (B8 (flat ls (l.take k))) ∧ Below w1.heap.size w1 wr) (fun _ i _ => t - (intOf i).toNat)
    case atStart => exact ⟨0, by omega, rfl, rfl, World.ownsRow_nil _ _ _ _, Below.refl _ _⟩
    case round =>
      obtain ⟨k, hk, rfl, hall, oo, hb2⟩ := hrel
      obtain ⟨Ao, co, rfl, _, _⟩ := own_rd oo
      have AL := Lib.hid hall
      clear hall
      by_cases hlt : k < t
      · obtain ⟨b, o, rfl, y1⟩ := (ht.below hb2).i64 k (by omega)
        have ea := addr_add b o k
        have TK := Lib.hid (List.take_succ_eq_append_getElem (show k < l.length by omega))
        have hmem : l[k]'(by omega) ∈ l := List.getElem_mem _
        generalize l[k]'(by omega) = x at *
        by_cases hbad : x < 0 ∨ (ls.length : Int) ≤ x
        · have hr : ¬ (l.all (okTok ls.length) = true) := by
            intro h
            have := List.all_eq_true.1 h x hmem
            simp [okTok] at this
            omega
          have NR := Lib.hid hr
          clear hr hmem
          by_cases z : x < 0
          · clear hbad
            go_wp2
            go_returns
            refine ⟨.slice none 0 0, by rw [HR.out, if_neg NR.out]; rfl, ?_, bthen hb hb2⟩
            rw [HY.out, if_neg NR.out]
            exact World.ownsRow_nil _ _ _ _
          · have z2 : (ls.length : Int) ≤ x := by omega
            clear hbad
            go_wp2
            go_returns
            refine ⟨.slice none 0 0, by rw [HR.out, if_neg NR.out]; rfl, ?_, bthen hb hb2⟩
            rw [HY.out, if_neg NR.out]
            exact World.ownsRow_nil _ _ _ _
        · clear hmem
          obtain ⟨q, rfl⟩ : ∃ q : Nat, x = (q : Int) := ⟨x.toNat, by omega⟩
          have hq : q < ls.length := by omega
          have hx : okTok ls.length (q : Int) = true := by simp [okTok]; omega
          have HX := Lib.hid hx
          clear hbad hx
          obtain ⟨v, hv1, ov⟩ := hp.get q hq
          have c3 := own_cell (own_below ho hb2) q _ hv1
          have ea2 : (⟨g, 0, none⟩ : Addr).add q = ⟨g, q, none⟩ := by simpa using addr_add g 0 q
          have ov' : wr.ownsRow w.heap.size 5 1 v (tok ls q).length (B8 (tok ls q)) := own_base (own_below ov hb2) (by simp)
          obtain ⟨va, vc, rfl, _, _⟩ := own_rd ov'
          have hsz : (tok ls q).length ≤ 16 := hT.small q
          have hfl := flat_small hT (l.take k)
          have hfl2 : (l.take k).length ≤ t := by simp; omega
          have FS := Lib.hid (flat_snoc ls (l.take k) (q : Int))
          clear ov
          go_wp2_with (at_builtin; refine appRow (w0 := w1) w1.heap.size rfl _ _ 22 5 (.int .u8 0) 1 rfl Try.underlying22 info5 rfl (by decide) (.slice Ao (flat ls (l.take k)).length co) (flat ls (l.take k)).length (B8 (flat ls (l.take k))) va (tok ls q).length vc (B8 (tok ls q)) rfl rfl (B8_length _) (B8_one _) (own_rdA ov') oo hb2 hb2.size (by omega) ?_; intro v1 w4 o1 hb5 hg5 hat5)
          go_roundw
          case rel =>
            refine ⟨k + 1, by omega, by go_num, ?_, ?_, hb5⟩
            · rw [TK.out, List.all_append, AL.out]
              simpa using HX.out
            · rw [TK.out, FS.out, List.length_append, B8_append]
              simpa using o1
          case measure => simp [intOf]; omega
      · obtain rfl : t = k := by omega
        have hr : l.all (okTok ls.length) = true := by
          have := AL.out
          rwa [List.take_of_length_le (by omega)] at this
        have hfe : flat ls (l.take t) = flat ls l := by rw [List.take_of_length_le (by omega)]
        generalize flat ls (l.take t) = F at *
        have FE := Lib.hid hfe
        have NR := Lib.hid hr
        clear hr hfe
        go_wp2
        go_returns
        refine ⟨_, by rw [HR.out, if_pos NR.out]; rfl, ?_, bthen hb hb2⟩
        rw [HY.out, if_pos NR.out, ← FE.out]
        exact own_base oo hb.size
end Go.Proofs.Ytobklhnechbpaaa
