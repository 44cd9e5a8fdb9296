import Derived.Test.YtobklhnechbpaaaMem
import Derived.Deep.RegionLaw
namespace Go.Proofs.Ytobklhnechbpaaa
open Go.RowKit

/-- a block that is known whole -/
def Blk (w : World) (b : Nat) (cs : Array Value) (t : TypeId) : Prop := w.heap[b]? = some (.cells cs t (0, 0))
theorem Blk.lt {w : World} {b : Nat} {cs : Array Value} {t : TypeId} (h : Blk w b cs t) : b < w.heap.size := (Array.getElem?_eq_some_iff.1 h).1
theorem Blk.cell {w : World} {b : Nat} {cs : Array Value} {t : TypeId} (h : Blk w b cs t) (i : Nat) : w.cell? ⟨b, i, none⟩ = cs[i]? := by simp [World.cell?, show w.heap[b]? = _ from h]
theorem Blk.frozen {w : World} {b : Nat} {cs : Array Value} {t : TypeId} (h : Blk w b cs t) (i : Nat) : w.frozen? ⟨b, i, none⟩ = false := by simp [World.frozen?, show w.heap[b]? = _ from h]
theorem Blk.new (w : World) (cs : Array Value) (t : TypeId) : Blk (w.alloc (.cells cs t)) w.heap.size cs t := (MapKept.heap_alloc w _).1
theorem Blk.kept {w w' : World} {row : Option Nat} {b : Nat} {cs : Array Value} {t : TypeId} (h : Blk w b cs t) (hg : w.grownBy w' row) (hne : some b ≠ row) : Blk w' b cs t := (hg.block b h.lt hne).trans h
theorem Blk.alloc {w : World} {b : Nat} {cs : Array Value} {t : TypeId} (h : Blk w b cs t) (o : Obj) : Blk (w.alloc o) b cs t := h.kept (World.grownBy_alloc w o none) (by simp)
theorem Blk.drew {w : World} {b : Nat} {cs : Array Value} {t : TypeId} (h : Blk w b cs t) : Blk w.drew b cs t := h
theorem Blk.below {w w' : World} {b : Nat} {cs : Array Value} {t : TypeId} (h : Blk w b cs t) (hb : Below w.heap.size w w') : Blk w' b cs t := (hb.block b h.lt).trans h
theorem Blk.other {w : World} {b : Nat} {cs : Array Value} {t : TypeId} (h : Blk w b cs t) (a : Addr) (u : Value) (hne : b ≠ a.block) : Blk (w.setCell a u) b cs t := (Below.heap_setCell w a u b hne).trans h
theorem Blk.set {w : World} {b : Nat} {cs : Array Value} {t : TypeId} (h : Blk w b cs t) (i : Nat) (u : Value) : Blk (w.setCell ⟨b, i, none⟩ u) b (cs.setIfInBounds i u) t := by
  obtain ⟨hlt, hk⟩ := Array.getElem?_eq_some_iff.1 h
  show (w.heap.modify b _)[b]? = _
  rw [Array.getElem?_eq_getElem (by rw [Array.size_modify]; exact hlt), Array.getElem_modify_self, hk]
  rfl
/-- a block of another type is not the row's own -/
theorem Blk.not_row {w : World} {b : Nat} {cs : Array Value} {t e : TypeId} (h : Blk w b cs t) (hte : t ≠ e) {base size n : Nat} {v : Value} {xs : List Value} (hr : w.ownsRow base e size v n xs) : some b ≠ v.ownBlock := by
  rcases hr.2 with ⟨rfl, _⟩ | ⟨g, cap, cur, rfl, _, hg, _⟩
  · simp [Value.ownBlock]
  · intro he
    have : b = g := by simpa [Value.ownBlock] using he
    subst this
    rw [show w.heap[b]? = _ from h] at hg
    injection hg with hg
    injection hg with _ ht
    exact hte ht
theorem own_set_other {w : World} {base : Nat} {e : TypeId} {size : Nat} {v : Value} {n : Nat} {xs : List Value} (h : w.ownsRow base e size v n xs) (b i : Nat) (u : Value) (hne : some b ≠ v.ownBlock) : (w.setCell ⟨b, i, none⟩ u).ownsRow base e size v n xs := by
  refine h.kept (row := some b) ⟨rfl, rfl, rfl, by simp, fun k _ hk => Below.heap_setCell _ _ _ k (fun e => hk (by rw [e]))⟩ ?_
  cases hv : v.ownBlock with
  | none => exact .inl rfl
  | some q => exact .inr (fun he => hne (by rw [hv, ← he]))
theorem own_kept_drew {w w1 : World} {row : Option Nat} {base : Nat} {e : TypeId} {size n : Nat} {v : Value} {xs : List Value} (h : w.ownsRow base e size v n xs) (hg : w.drew.grownBy w1 row) (hn : v.ownBlock = none ∨ v.ownBlock ≠ row) : w1.ownsRow base e size v n xs :=
  World.ownsRow.kept (w := w.drew) h hg hn
theorem own_below {w w1 : World} {base : Nat} {e : TypeId} {size n : Nat} {v : Value} {xs : List Value} (h : w.ownsRow base e size v n xs) (hb : Below w.heap.size w w1) : w1.ownsRow base e size v n xs :=
  h.kept (row := none) ⟨hb.os, hb.tape, hb.output, hb.size, fun i hi _ => hb.block i hi⟩ (by cases v.ownBlock <;> simp)
theorem own_type_ne {w : World} {b b' : Nat} {e e' : TypeId} {s s' n n' : Nat} {v v' : Value} {xs xs' : List Value} (h : w.ownsRow b e s v n xs) (h' : w.ownsRow b' e' s' v' n' xs') (hne : e ≠ e') : v.ownBlock = none ∨ v.ownBlock ≠ v'.ownBlock := by
  rcases h.2 with ⟨rfl, _⟩ | ⟨g, cap, cur, rfl, _, hh, _⟩
  · exact .inl rfl
  · refine .inr fun hk => ?_
    have := Blk.not_row (w := w) (b := g) (cs := cur) (t := e) hh hne h'
    exact this (by simpa [Value.ownBlock] using hk)

section
variable {P : Program} {ops : Array Oper} {o : Oper} {a : Act} {Q : Exit → Act → World → Prop} {K : Act → World → Prop} {E : Prop}
/-- 'app' as one step of a region that draws. -/
theorem appStep {w0 W : World} (base : Nat) (hgd : o.guard = none) (s x : Operand) (t e : TypeId) (z : Value) (size bytes : Nat)
    (ho : o.op = .call { callee := .builtin .append, args := #[s, x], argTypes := #[t, t] })
    (ht : P.underlying t = some (.slice e)) (hinfo : (P.info? e).map (fun i => (i.zero, i.size, i.bytes)) = some (some z, size, bytes)) (hzs : z.cells.size = size) (hsz : 0 < size) (hb0 : 0 < bytes)
    (v : Value) (n : Nat) (xs : List Value) (H : Nat) (cs : Array Value) (hs : a.eval s = v) (hx : a.eval x = .slice (some ⟨H, 0, none⟩) 1 1) (hl : cs.size = size) (h1 : ∀ u ∈ cs.toList, u.oneCell' = true)
    (hH : Blk W H cs e) (HO : W.ownsRow base e size v n xs) (HB : Below base w0 W) (hbase : base ≤ W.heap.size) (hle : (n + 1) * bytes ≤ 140737488355328)
    (h : ∀ g cap w1, w1.ownsRow base e size (.slice (some ⟨g, 0, none⟩) (n + 1) cap) (n + 1) (xs ++ cs.toList) → Below base w0 w1 → W.grownBy w1 v.ownBlock → (v.ownBlock = some g ∨ g = W.heap.size) → K (a.put o.dst (.slice (some ⟨g, 0, none⟩) (n + 1) cap)) w1) :
    if Region.wanted o (yielded ops a.tmps) = true then Oper.wp P o a W K Q else E := by
  obtain ⟨i0, hi, hzz⟩ := Option.map_eq_some_iff.1 hinfo
  simp only [Prod.mk.injEq] at hzz
  obtain ⟨hz0, hz1, hz2⟩ := hzz
  have hlen : n + 1 ≤ 140737488355328 := Nat.le_trans (Nat.le_mul_of_pos_right _ hb0) hle
  refine step_append_lies W hgd s x t ho base e i0 z size bytes ht hi hz0 hz1 hz2 hzs hsz v n xs hs HO ⟨H, 0, none⟩ 1 1 cs.toList hx (by simpa using hl)
    (World.news_of_block (cs := cs) (t := e) (fr := (0, 0)) hH) h1 (by omega) (by simp only [maxLen]; omega) hle hbase W.heap.size rfl ?_
  intro g cap w1 hown hg hat _
  refine h g cap w1 hown (HB.grown hg hbase (fun k hk => ?_)) hg hat
  rcases HO.2 with ⟨rfl, _⟩ | ⟨g', cap', cur', rfl, hb, _⟩
  · simp [Value.ownBlock] at hk
  · have : g' = k := by simpa [Value.ownBlock] using hk
    omega
end

/-- the pairs' cells -/
theorem PR_length (ps : List (Int × Int)) : (PR ps).length = 2 * ps.length := by
  induction ps with
  | nil => rfl
  | cons p r ih => simp only [PR, List.flatMap_cons, List.length_append, List.length_cons, List.length_nil] at *; omega
theorem PR_get (ps : List (Int × Int)) : ∀ (i : Nat) (h : i < ps.length), (PR ps)[2 * i]? = some (.int .i64 ps[i].1) ∧ (PR ps)[2 * i + 1]? = some (.int .i64 ps[i].2) := by
  induction ps with
  | nil => intro i h; simp at h
  | cons p r ih =>
    intro i h
    cases i with
    | zero => simp [PR]
    | succ i =>
      have := ih i (by simpa using h)
      have e : PR (p :: r) = Value.int .i64 p.1 :: Value.int .i64 p.2 :: PR r := by simp [PR]
      rw [e, show 2 * (i + 1) = 2 * i + 1 + 1 by omega, show 2 * i + 1 + 1 + 1 = 2 * i + 1 + 1 + 1 from rfl]
      simpa using this
theorem Rd.pr {w : World} {A : Option Addr} {ps : List (Int × Int)} (h : Rd w A (PR ps)) (i : Nat) (hi : i < ps.length) :
    ∃ b o, A = some ⟨b, o, none⟩ ∧ w.cell? ⟨b, o + i * 2, none⟩ = some (.int .i64 ps[i].1) ∧ w.cell? ⟨b, o + i * 2 + 1, none⟩ = some (.int .i64 ps[i].2) := by
  obtain ⟨g0, g1⟩ := PR_get ps i hi
  have hl := PR_length ps
  rcases h with e | ⟨b, o, e, hc⟩
  · rw [e] at g0
    simp at g0
  · have c0 := hc (2 * i) (by omega)
    have c1 := hc (2 * i + 1) (by omega)
    rw [g0, Nat.mul_comm] at c0
    rw [g1, ← Nat.add_assoc, Nat.mul_comm] at c1
    exact ⟨b, o, e, c0, c1⟩

set_option maxRecDepth 100000 in
set_option maxHeartbeats 1000000 in
/-- CopyVocab -/
theorem copyVocab_any (A A' : Option Addr) (n m c c' : Nat) (bs : List Int) (ps : List (Int × Int)) (hn : bs.length = n) (hm : ps.length = m) (hb1 : n * 1 ≤ 140737488355328) (hb2 : m * 16 ≤ 140737488355328) (w : World) (hx : Rd w A (B8 bs)) (hy : Rd w A' (PR ps)) :
    Calls Try.prog 29 #[.agg #[.slice A n c, .slice A' m c']] w fun e w' => ∃ v u, e = .returned (.agg #[v, u]) ∧ w'.ownsRow w.heap.size 5 1 v n (B8 bs) ∧ w'.ownsRow w.heap.size 51 2 u m (PR ps) ∧ Below w.heap.size w w' := by
  go_enter Try.func29, Try.ntmps29
  go_wp2_with fail
  refine (copyBytes_any A n c bs hn hb1 _ (hx.below (by go_grown))).mono ?_
  rintro e w1 ⟨v, rfl, hv, hbb⟩
  obtain ⟨va, vc, rfl, _, _⟩ := own_rd hv
  have k0 : Blk w1 w.heap.size #[.slice A n c, .slice A' m c'] 25 := Blk.below (((Blk.new w _ _).alloc _).alloc _) hbb
  have k1 : Blk w1 (w.heap.size + 1) #[.slice none 0 0, .slice none 0 0] 25 := by
    have := (Blk.new (w.alloc (.cells #[.slice A n c, .slice A' m c'] 25)) #[.slice none 0 0, .slice none 0 0] 25).alloc (.cells #[.slice none 0 0, .slice none 0 0] 25)
    simpa using this.below hbb
  have k2 : Blk w1 (w.heap.size + 2) #[.slice none 0 0, .slice none 0 0] 25 := by
    have := (Blk.new ((w.alloc (.cells #[.slice A n c, .slice A' m c'] 25)).alloc (.cells #[.slice none 0 0, .slice none 0 0] 25)) #[.slice none 0 0, .slice none 0 0] 25)
    simpa using this.below hbb
  have kB : Below w.heap.size w w1 := Below.trans (by go_grown) (hbb.mono (by simp; omega))
  have kv : w1.ownsRow w.heap.size 5 1 (.slice va n vc) n (B8 bs) := by
    refine ⟨hv.1, ?_⟩
    rcases hv.2 with h | ⟨g, cap, cur, h1, h2, h3⟩
    · exact .inl h
    · exact .inr ⟨g, cap, cur, h1, by simp at h2; omega, h3⟩
  clear hv hbb
  rw [show w.heap.size + 2 = w.heap.size + 1 + 1 from rfl] at k2
  have z0 : w1.cell? ⟨w.heap.size + 1 + 1, 0, none⟩ = some (.slice none 0 0) := by rw [k2.cell]; rfl
  have z1 := k2.frozen 0
  go_wp2
  have k2' := k2.set 0 (.slice va n vc)
  have k1' := k1.other ⟨w.heap.size + 1 + 1, 0, none⟩ (.slice va n vc) (by simp)
  have k0' := k0.other ⟨w.heap.size + 1 + 1, 0, none⟩ (.slice va n vc) (by simp; omega)
  have kB' := kB.setCell (p := ⟨w.heap.size + 1 + 1, 0, none⟩) (by simp; omega) (.slice va n vc)
  have kv' := own_set_other kv (w.heap.size + 1 + 1) 0 (.slice va n vc) (k2.not_row (by decide) kv)
  clear k0 k1 k2 kB kv z0 z1
  generalize w1.setCell ⟨w.heap.size + 1 + 1, 0, none⟩ (.slice va n vc) = w2 at *
  go_loopw [4] (fun i wr => ∃ (k : Nat) (u : Value), k ≤ m ∧ i = .int .i64 k ∧ Blk wr w.heap.size #[.slice A n c, .slice A' m c'] 25 ∧ Blk wr (w.heap.size + 1) #[.slice none 0 0, .slice none 0 0] 25 ∧
      Blk wr (w.heap.size + 1 + 1) #[.slice va n vc, u] 25 ∧ wr.ownsRow w.heap.size 5 1 (.slice va n vc) n (B8 bs) ∧ wr.ownsRow w.heap.size 51 2 u k (PR (ps.take k)) ∧ Below w.heap.size w wr) (fun i _ => m - (intOf i).toNat)
  case atStart => exact ⟨0, .slice none 0 0, by omega, rfl, k0', k1', k2', kv', World.ownsRow_nil _ _ _ _, kB'⟩
  case round =>
    obtain ⟨k, u, hk, rfl, q0, q1, q2, hv, hu, hb⟩ := hrel
    have c00 : wr.cell? ⟨w.heap.size, 0, none⟩ = some (.slice A n c) := q0.cell _
    have c01 : wr.cell? ⟨w.heap.size, 1, none⟩ = some (.slice A' m c') := q0.cell _
    have c20 : wr.cell? ⟨w.heap.size + 1 + 1, 0, none⟩ = some (.slice va n vc) := q2.cell _
    have c21 : wr.cell? ⟨w.heap.size + 1 + 1, 1, none⟩ = some u := q2.cell _
    have f21 := q2.frozen 1
    by_cases hlt : k < m
    · obtain ⟨b, o, rfl, h1, h2⟩ := (hy.below hb).pr k (by omega)
      have ea := addr_add b o (k * 2)
      have T1 := Lib.hid (List.take_succ_eq_append_getElem (show k < ps.length by omega))
      have S1 := Lib.hid (PR_snoc (ps.take k) ps[k])
      generalize hxv : ps[k]'(by omega) = x at *
      obtain ⟨x1, x2⟩ := x
      clear hxv
      simp only at h1 h2 S1
      go_wp2
      have n2 := q2.not_row (by decide) hu
      have n1 := q1.not_row (by decide) hu
      have n0 := q0.not_row (by decide) hu
      have nv := own_type_ne hv hu (by decide)
      have c21' : (wr.alloc (.cells #[.int .i64 x1, .int .i64 x2] 51)).cell? ⟨w.heap.size + 1 + 1, 1, none⟩ = some u := (q2.alloc _).cell 1
      go_region_law ((refine appStep (w0 := w) w.heap.size rfl _ _ 23 51 (.agg #[.int .i64 0, .int .i64 0]) 2 16 rfl Try.underlying23 info51 rfl (by decide) (by decide) u k (PR (ps.take k)) wr.heap.size #[.int .i64 x1, .int .i64 x2] rfl rfl rfl (by simp [Value.oneCell']) (Blk.new wr _ 51) (hu.alloc _) (hb.alloc hb.size _).drew (by have := hb.size; simp; omega) (by omega) ?_; intro g cap w3 ho hb3 hg3 hat; have r2 := Blk.kept (Blk.drew (q2.alloc (.cells #[.int .i64 x1, .int .i64 x2] 51))) hg3 n2; have r1 := Blk.kept (Blk.drew (q1.alloc (.cells #[.int .i64 x1, .int .i64 x2] 51))) hg3 n1; have r0 := Blk.kept (Blk.drew (q0.alloc (.cells #[.int .i64 x1, .int .i64 x2] 51))) hg3 n0; have rv := own_kept_drew (hv.alloc (.cells #[.int .i64 x1, .int .i64 x2] 51)) hg3 nv; have d21 : w3.cell? ⟨w.heap.size + 1 + 1, 1, none⟩ = some u := r2.cell 1; have e21 := r2.frozen 1))
      all_goals go_wp2
      all_goals
        go_roundw
        case rel =>
          have r2' := r2.set 1 (.slice (some ⟨g, 0, none⟩) (k + 1) cap)
          have e1 := ho
          rw [show (PR (ps.take k) ++ (#[Value.int .i64 x1, Value.int .i64 x2] : Array Value).toList) = PR (ps.take (k + 1)) by rw [T1.out]; exact S1.out] at e1
          refine ⟨k + 1, .slice (some ⟨g, 0, none⟩) (k + 1) cap, by omega, by go_num, r0.other _ _ (by simp; omega), r1.other _ _ (by simp), r2', ?_, ?_, hb3.setCell (by simp; omega) _⟩
          · exact own_set_other rv _ _ _ (r2.not_row (by decide) rv)
          · exact own_set_other e1 _ _ _ (r2.not_row (by decide) e1)
        case measure => simp [intOf]; omega
    · have hkm : ps.take k = ps := List.take_of_length_le (by omega)
      rw [hkm] at hu
      obtain rfl : k = m := by omega
      obtain ⟨ua, uc, rfl, _, _⟩ := own_rd hu
      have g0 : wr.cell? ⟨w.heap.size + 1, 0, none⟩ = some (.slice none 0 0) := q1.cell _
      have g1 : wr.cell? ⟨w.heap.size + 1, 1, none⟩ = some (.slice none 0 0) := q1.cell _
      have g2 := q1.frozen 0
      have g3 := q1.frozen 1
      go_wp2
      have s1 : Blk ((wr.setCell ⟨w.heap.size + 1, 0, none⟩ (.slice va n vc)).setCell ⟨w.heap.size + 1, 1, none⟩ (.slice ua k uc)) (w.heap.size + 1) #[.slice va n vc, (.slice ua k uc)] 25 := (q1.set 0 (.slice va n vc)).set 1 (.slice ua k uc)
      have s2 := own_set_other (own_set_other hv (w.heap.size + 1) 0 (.slice va n vc) (q1.not_row (by decide) hv)) (w.heap.size + 1) 1 (.slice ua k uc) ((q1.set 0 (.slice va n vc)).not_row (by decide) (own_set_other hv (w.heap.size + 1) 0 (.slice va n vc) (q1.not_row (by decide) hv)))
      have s3 := own_set_other (own_set_other hu (w.heap.size + 1) 0 (.slice va n vc) (q1.not_row (by decide) hu)) (w.heap.size + 1) 1 (.slice ua k uc) ((q1.set 0 (.slice va n vc)).not_row (by decide) (own_set_other hu (w.heap.size + 1) 0 (.slice va n vc) (q1.not_row (by decide) hu)))
      have s4 := (hb.setCell (p := ⟨w.heap.size + 1, 0, none⟩) (by simp) (.slice va n vc)).setCell (p := ⟨w.heap.size + 1, 1, none⟩) (by simp) (.slice ua k uc)
      exact bodyPost_ret (results_cell_row rfl _ _ (w.heap.size + 1) 25 #[.slice va n vc, .slice ua k uc] (0, 0) _ rfl s1 Try.underlying25 rfl (by kernel_rfl)) rfl ⟨_, _, rfl, s2, s3, s4⟩
end Go.Proofs.Ytobklhnechbpaaa
