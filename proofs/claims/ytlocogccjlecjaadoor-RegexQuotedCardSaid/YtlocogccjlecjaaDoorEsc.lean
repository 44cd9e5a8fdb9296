import Derived.Test.YtlocogccjlecjaaDoorRxP
import Derived.Laws.ResultCell
import Derived.Deep.DeepCutAuto
namespace Go.Proofs.YtlocogccjlecjaaDoor
open Go.RowKit
/-- the parser gives up -/
def Fault (pl : Int) : Ending := .panicked [{ v := .iface 111 (.int .i64 pl), recovered := false }]
/-- what reads a set: the set, is it a single byte, the place behind it; or the fault at 'pl' -/
def SetPost (s : ByteArray) (p : Nat) (pl : Int) (w : World) (r : Option (Nat × Bool × Nat)) (e : Ending) (w' : World) : Prop :=
  Kp (fun z => z = p) w w' ∧ match r with
  | none => e = Fault pl
  | some (N, o, j) => e = .returned (.tuple #[setV N, .bool o]) ∧ Prs w' p s j
/-- the rest of a text -/
structure Rest (s r : ByteArray) (i : Nat) : Prop where
  size : r.size = s.size - i
  get : ∀ k, k < r.size → bt r k = bt s (i + k)
theorem Rest.mk' (s : ByteArray) (i : Nat) : Rest s (s.extract i s.size) i := by
  have e : (s.extract i s.size).data.toList = s.data.toList.drop i := by
    rw [Lib.extract_data, List.take_of_length_le (by rw [List.length_drop]; exact Nat.le_refl _)]
  refine ⟨?_, fun k hk => ?_⟩
  · have := congrArg List.length e
    rw [List.length_drop] at this
    exact this
  · unfold bt
    rw [e, List.getD_eq_getElem?_getD, List.getD_eq_getElem?_getD, List.getElem?_drop]
theorem ret_set {fn : Func} (h : fn.results = #[.cell 4 84, .tmp 5]) (tmps : Array Value) (w : World) (X N : Nat) (o : Bool) (hp : tmps.getD 4 undef = .pointer (some ⟨X, 0, none⟩)) (hq : Blk w X (setC N) 84) (ho : tmps.getD 5 undef = .bool o) :
    (results fn tmps).run Tryd.prog w = .ok (.tuple #[setV N, .bool o]) w := by
  rw [results_cell_tmp h, hp, ho]
  have hl : (loadVar 84 ⟨X, 0, none⟩).run Tryd.prog w = .ok (.agg (setC N)) w := run_loadVar_row w X 84 84 (setC N) (0, 0) _ hq Tryd.underlying84 rfl (by kernel_rfl)
  simp [asAddr, hl, setV]
theorem indexByte_lt (l : List UInt8) (c : UInt8) : Lib.indexByte l c < l.length := by
  induction l with
  | nil => simp [Lib.indexByte]
  | cons a l ih =>
    simp only [Lib.indexByte, List.length_cons]
    split
    · omega
    · split <;> omega
theorem contains_esc (b : Nat) (w : World) : Calls Tryd.prog 59 #[.string ⟨#[40, 41, 91, 93, 124, 42, 43, 63, 46, 45, 94, 92]⟩, .string ⟨#[b.toUInt8]⟩] w fun e w' => e = .returned (.bool (isIn escL b)) ∧ w' = w := contains_one _ _ w
theorem contains_suf (b : Nat) (w : World) : Calls Tryd.prog 59 #[.string ⟨#[42, 43, 63]⟩, .string ⟨#[b.toUInt8]⟩] w fun e w' => e = .returned (.bool (isIn sufL b)) ∧ w' = w := contains_one _ _ w
theorem hexF_nat {b : Nat} (h : ¬ hexF b < 0) : ∃ u : Nat, hexF b = (u : Int) ∧ u < 16 := by
  have := indexByte_lt [48, 49, 50, 51, 52, 53, 54, 55, 56, 57, 97, 98, 99, 100, 101, 102] b.toUInt8
  refine ⟨(hexF b).toNat, by omega, ?_⟩
  have h2 : hexF b < 16 := this
  omega
theorem setV_eq (N : Nat) : setV N = .agg #[.int .u64 (wd N 0 : Nat), .int .u64 (wd N 1 : Nat), .int .u64 (wd N 2 : Nat), .int .u64 (wd N 3 : Nat)] := rfl
/-- the answer's cell is written -/
theorem fin4 {s : ByteArray} {p j X : Nat} {w w3 : World} (hk : Kp (fun z => z = p) w w3) (hX : w.heap.size = X) (q4 : Blk w3 X (setC 0) 84) (hp : Prs w3 p s j) (N : Nat) :
    Blk ((((w3.setCell ⟨X, 0, none⟩ (.int .u64 (wd N 0 : Nat))).setCell ⟨X, 1, none⟩ (.int .u64 (wd N 1 : Nat))).setCell ⟨X, 2, none⟩ (.int .u64 (wd N 2 : Nat))).setCell ⟨X, 3, none⟩ (.int .u64 (wd N 3 : Nat))) X (setC N) 84 ∧
    Kp (fun z => z = p) w ((((w3.setCell ⟨X, 0, none⟩ (.int .u64 (wd N 0 : Nat))).setCell ⟨X, 1, none⟩ (.int .u64 (wd N 1 : Nat))).setCell ⟨X, 2, none⟩ (.int .u64 (wd N 2 : Nat))).setCell ⟨X, 3, none⟩ (.int .u64 (wd N 3 : Nat))) ∧
    Prs ((((w3.setCell ⟨X, 0, none⟩ (.int .u64 (wd N 0 : Nat))).setCell ⟨X, 1, none⟩ (.int .u64 (wd N 1 : Nat))).setCell ⟨X, 2, none⟩ (.int .u64 (wd N 2 : Nat))).setCell ⟨X, 3, none⟩ (.int .u64 (wd N 3 : Nat))) p s j := by
  have hne : p ≠ X := fun e => by
    have h1 : w3.heap[X]? = some (.cells (setC 0) 84 (0, 0)) := q4
    have h2 : w3.heap[p]? = some (.cells _ 115 (0, 0)) := hp
    rw [e, h1] at h2
    injection h2 with h2
    injection h2 with _ h2
    cases h2
  refine ⟨q4.set4 N, hk.set4 X _ _ _ _ (fun h => absurd h (by omega)), ?_⟩
  exact (((Blk.other hp _ _ hne).other _ _ hne).other _ _ hne).other _ _ hne
theorem ne_lit {b k : Nat} (h : b ≠ k) : ((b : Int) == (k : Int)) = false := by rw [beq_eq_false_iff_ne]; omega
set_option maxRecDepth 100000 in
set_option maxHeartbeats 8000000 in
/-- escape -/
theorem escape_any (s : ByteArray) (p i : Nat) (pl : Int) (w : World) (hp : Prs w p s i) (hi : i < s.size) (hs : s.size ≤ 64) :
    Calls Tryd.prog 63 #[.pointer (some ⟨p, 0, none⟩), .int .i64 pl] w fun e w' => SetPost s p pl w (escF s i) e w' := by
  have h0 : Below w.heap.size w (w.alloc (.cells (setC 0) 84)) := by go_grown
  have q4 := Blk.new w (setC 0) 84
  have e0 : setC 0 = #[.int .u64 0, .int .u64 0, .int .u64 0, .int .u64 0] := by simp [setC, wd_zero]
  have hq := Blk.below hp h0
  rw [e0] at hq h0 q4
  have y0 : (w.alloc (.cells #[.int .u64 0, .int .u64 0, .int .u64 0, .int .u64 0] 84)).cell? ⟨p, 0, none⟩ = some (.string s) := hq.cell 0
  have y1 : (w.alloc (.cells #[.int .u64 0, .int .u64 0, .int .u64 0, .int .u64 0] 84)).cell? ⟨p, 1, none⟩ = some (.int .i64 (i : Int)) := hq.cell 1
  have f1 := hq.frozen 1
  have hpw : p < w.heap.size := Blk.lt hp
  have hii : (i : Int) + 1 ≤ (s.size : Int) := by omega
  have hii2 : (0 : Int) ≤ (i : Int) + 1 := by omega
  go_enter Tryd.func63, Tryd.ntmps63
  go_wp2
  generalize w.alloc (.cells #[.int .u64 0, .int .u64 0, .int .u64 0, .int .u64 0] 84) = w1 at *
  rw [← e0] at q4
  clear e0
  go_quiet (fail)
  have hR := Rest.mk' s (i + 1)
  generalize s.extract (i + 1) s.size = r at *
  by_cases hr : s.size ≤ i + 1
  · have hr0 : r.toList.isEmpty = true := by
      have h1 : r.size = 0 := by rw [hR.size]; omega
      have h2 : r.data.toList = [] := List.length_eq_zero_iff.1 h1
      rw [ByteArray.toList_eq, h2]; rfl
    have e1 : escF s i = none := by unfold escF; rw [if_pos hr]
    have E1 := Lib.hid e1
    clear e1
    go_wp2_with fail
    refine (fail_any _ _).mono ?_
    rintro e w2 ⟨rfl, rfl⟩
    go_wp2
    have hk := Kp.of_below (S := fun z => z = p) (bdraw h0 nq)
    rw [E1.out]
    exact ⟨rfl, hk, rfl⟩
  · have hr1 : 0 < r.size := by rw [hR.size]; omega
    have hr0 : r.toList.isEmpty = false := by
      have h2 : r.data.toList ≠ [] := fun e => by
        have : r.size = 0 := by show r.data.toList.length = 0; rw [e]; rfl
        omega
      rw [ByteArray.toList_eq]
      cases hq : r.data.toList with
      | nil => exact absurd hq h2
      | cons a l => rfl
    obtain ⟨b, hb⟩ : ∃ b, b = bt s (i + 1) := ⟨_, rfl⟩
    have hb0 : ((r[0]'hr1).toNat : Int) = (b : Int) := by rw [hb, ← hR.get 0 hr1, bt_eq hr1]
    have HB := Lib.hid hb
    have hbl : b < 256 := by rw [hb]; exact bt_lt _ _
    clear hb
    go_upto_region 6 with fail
    have hP : Prs ((w1.drewN nq).setCell ⟨p, 1, none⟩ (.int .i64 ((i : Int) + 2))) p s (i + 2) := by
      have h1 : Blk (w1.drewN nq) p #[.string s, .int .i64 (i : Int)] 115 := hq
      have h2 := h1.set 1 (.int .i64 ((i : Int) + 2))
      exact h2
    have hne : w.heap.size ≠ p := by omega
    have q4' : Blk ((w1.drewN nq).setCell ⟨p, 1, none⟩ (.int .i64 ((i : Int) + 2))) w.heap.size (setC 0) 84 := Blk.other (w := w1.drewN nq) q4 _ _ hne
    have hk : Kp (fun z => z = p) w ((w1.drewN nq).setCell ⟨p, 1, none⟩ (.int .i64 ((i : Int) + 2))) := (Kp.of_below (bdraw h0 nq)).set p 1 _ (fun _ => rfl)
    generalize (w1.drewN nq).setCell ⟨p, 1, none⟩ (.int .i64 ((i : Int) + 2)) = w2 at *
    clear y0 y1 f1 q4 h0 hq
    have q4 := q4'
    clear q4'
    have RR := Lib.hid hR
    have NR := Lib.hid (show ¬ s.size ≤ i + 1 from hr)
    clear hR hb0 hr
    by_cases h110 : b = 110
    · have e1 : escF s i = some (spanN 10 10, true, i + 2) := by
        unfold escF
        rw [if_neg NR.out]
        rw [if_pos (by rw [← HB.out]; exact h110)]
      have E1 := Lib.hid e1
      clear e1
      subst h110
      go_wp2_with fail
      refine (span_any 10 10 (by decide) (by decide) _).mono ?_
      rintro e w3 ⟨rfl, hb3⟩
      replace q4 := q4.below hb3
      replace hP := Blk.below hP hb3
      replace hk := hk.below hb3
      clear hb3
      obtain ⟨N, hN⟩ : ∃ N, N = spanN 10 10 := ⟨_, rfl⟩
      rw [← hN, setV_eq]
      have HN := Lib.hid hN
      clear hN
      have z0 : w3.cell? ⟨w.heap.size, 0, none⟩ = some (.int .u64 (wd 0 0 : Nat)) := q4.cell 0
      have g0 := q4.frozen 0
      have z1 : w3.cell? ⟨w.heap.size, 1, none⟩ = some (.int .u64 (wd 0 1 : Nat)) := q4.cell 1
      have g1 := q4.frozen 1
      have z2 : w3.cell? ⟨w.heap.size, 2, none⟩ = some (.int .u64 (wd 0 2 : Nat)) := q4.cell 2
      have g2 := q4.frozen 2
      have z3 : w3.cell? ⟨w.heap.size, 3, none⟩ = some (.int .u64 (wd 0 3 : Nat)) := q4.cell 3
      have g3 := q4.frozen 3
      have FF := Lib.hid (fin4 hk rfl q4 hP N)
      clear q4 hk hP
      go_wp2
      refine bodyPost_ret (ret_set rfl _ _ w.heap.size N true rfl FF.out.1 rfl) rfl ?_
      rw [E1.out, ← HN.out]
      exact ⟨FF.out.2.1, rfl, FF.out.2.2⟩
    by_cases h116 : b = 116
    · have e1 : escF s i = some (spanN 9 9, true, i + 2) := by
        unfold escF
        rw [if_neg NR.out]
        rw [if_neg (by rw [← HB.out]; exact h110)]
        rw [if_pos (by rw [← HB.out]; exact h116)]
      have E1 := Lib.hid e1
      clear e1
      have n110 : ((b : Int) == 110) = false := ne_lit h110
      subst h116
      go_wp2_with fail
      refine (span_any 9 9 (by decide) (by decide) _).mono ?_
      rintro e w3 ⟨rfl, hb3⟩
      replace q4 := q4.below hb3
      replace hP := Blk.below hP hb3
      replace hk := hk.below hb3
      clear hb3
      obtain ⟨N, hN⟩ : ∃ N, N = spanN 9 9 := ⟨_, rfl⟩
      rw [← hN, setV_eq]
      have HN := Lib.hid hN
      clear hN
      have z0 : w3.cell? ⟨w.heap.size, 0, none⟩ = some (.int .u64 (wd 0 0 : Nat)) := q4.cell 0
      have g0 := q4.frozen 0
      have z1 : w3.cell? ⟨w.heap.size, 1, none⟩ = some (.int .u64 (wd 0 1 : Nat)) := q4.cell 1
      have g1 := q4.frozen 1
      have z2 : w3.cell? ⟨w.heap.size, 2, none⟩ = some (.int .u64 (wd 0 2 : Nat)) := q4.cell 2
      have g2 := q4.frozen 2
      have z3 : w3.cell? ⟨w.heap.size, 3, none⟩ = some (.int .u64 (wd 0 3 : Nat)) := q4.cell 3
      have g3 := q4.frozen 3
      have FF := Lib.hid (fin4 hk rfl q4 hP N)
      clear q4 hk hP
      go_wp2
      refine bodyPost_ret (ret_set rfl _ _ w.heap.size N true rfl FF.out.1 rfl) rfl ?_
      rw [E1.out, ← HN.out]
      exact ⟨FF.out.2.1, rfl, FF.out.2.2⟩
    by_cases h114 : b = 114
    · have e1 : escF s i = some (spanN 13 13, true, i + 2) := by
        unfold escF
        rw [if_neg NR.out]
        rw [if_neg (by rw [← HB.out]; exact h110)]
        rw [if_neg (by rw [← HB.out]; exact h116)]
        rw [if_pos (by rw [← HB.out]; exact h114)]
      have E1 := Lib.hid e1
      clear e1
      have n110 : ((b : Int) == 110) = false := ne_lit h110
      have n116 : ((b : Int) == 116) = false := ne_lit h116
      subst h114
      go_wp2_with fail
      refine (span_any 13 13 (by decide) (by decide) _).mono ?_
      rintro e w3 ⟨rfl, hb3⟩
      replace q4 := q4.below hb3
      replace hP := Blk.below hP hb3
      replace hk := hk.below hb3
      clear hb3
      obtain ⟨N, hN⟩ : ∃ N, N = spanN 13 13 := ⟨_, rfl⟩
      rw [← hN, setV_eq]
      have HN := Lib.hid hN
      clear hN
      have z0 : w3.cell? ⟨w.heap.size, 0, none⟩ = some (.int .u64 (wd 0 0 : Nat)) := q4.cell 0
      have g0 := q4.frozen 0
      have z1 : w3.cell? ⟨w.heap.size, 1, none⟩ = some (.int .u64 (wd 0 1 : Nat)) := q4.cell 1
      have g1 := q4.frozen 1
      have z2 : w3.cell? ⟨w.heap.size, 2, none⟩ = some (.int .u64 (wd 0 2 : Nat)) := q4.cell 2
      have g2 := q4.frozen 2
      have z3 : w3.cell? ⟨w.heap.size, 3, none⟩ = some (.int .u64 (wd 0 3 : Nat)) := q4.cell 3
      have g3 := q4.frozen 3
      have FF := Lib.hid (fin4 hk rfl q4 hP N)
      clear q4 hk hP
      go_wp2
      refine bodyPost_ret (ret_set rfl _ _ w.heap.size N true rfl FF.out.1 rfl) rfl ?_
      rw [E1.out, ← HN.out]
      exact ⟨FF.out.2.1, rfl, FF.out.2.2⟩
    by_cases h100 : b = 100
    · have e1 : escF s i = some (spanN 48 57, false, i + 2) := by
        unfold escF
        rw [if_neg NR.out]
        rw [if_neg (by rw [← HB.out]; exact h110)]
        rw [if_neg (by rw [← HB.out]; exact h116)]
        rw [if_neg (by rw [← HB.out]; exact h114)]
        rw [if_pos (by rw [← HB.out]; exact h100)]
      have E1 := Lib.hid e1
      clear e1
      have n110 : ((b : Int) == 110) = false := ne_lit h110
      have n116 : ((b : Int) == 116) = false := ne_lit h116
      have n114 : ((b : Int) == 114) = false := ne_lit h114
      subst h100
      go_wp2_with fail
      refine (span_any 48 57 (by decide) (by decide) _).mono ?_
      rintro e w3 ⟨rfl, hb3⟩
      replace q4 := q4.below hb3
      replace hP := Blk.below hP hb3
      replace hk := hk.below hb3
      clear hb3
      obtain ⟨N, hN⟩ : ∃ N, N = spanN 48 57 := ⟨_, rfl⟩
      rw [← hN, setV_eq]
      have HN := Lib.hid hN
      clear hN
      have z0 : w3.cell? ⟨w.heap.size, 0, none⟩ = some (.int .u64 (wd 0 0 : Nat)) := q4.cell 0
      have g0 := q4.frozen 0
      have z1 : w3.cell? ⟨w.heap.size, 1, none⟩ = some (.int .u64 (wd 0 1 : Nat)) := q4.cell 1
      have g1 := q4.frozen 1
      have z2 : w3.cell? ⟨w.heap.size, 2, none⟩ = some (.int .u64 (wd 0 2 : Nat)) := q4.cell 2
      have g2 := q4.frozen 2
      have z3 : w3.cell? ⟨w.heap.size, 3, none⟩ = some (.int .u64 (wd 0 3 : Nat)) := q4.cell 3
      have g3 := q4.frozen 3
      have FF := Lib.hid (fin4 hk rfl q4 hP N)
      clear q4 hk hP
      go_wp2
      refine bodyPost_ret (ret_set rfl _ _ w.heap.size N false rfl FF.out.1 rfl) rfl ?_
      rw [E1.out, ← HN.out]
      exact ⟨FF.out.2.1, rfl, FF.out.2.2⟩
    by_cases h119 : b = 119
    · have e1 : escF s i = some (wordN, false, i + 2) := by
        unfold escF
        rw [if_neg NR.out]
        rw [if_neg (by rw [← HB.out]; exact h110)]
        rw [if_neg (by rw [← HB.out]; exact h116)]
        rw [if_neg (by rw [← HB.out]; exact h114)]
        rw [if_neg (by rw [← HB.out]; exact h100)]
        rw [if_pos (by rw [← HB.out]; exact h119)]
      have E1 := Lib.hid e1
      clear e1
      have n110 : ((b : Int) == 110) = false := ne_lit h110
      have n116 : ((b : Int) == 116) = false := ne_lit h116
      have n114 : ((b : Int) == 114) = false := ne_lit h114
      have n100 : ((b : Int) == 100) = false := ne_lit h100
      subst h119
      go_wp2_with fail
      refine (span_any 48 57 (by decide) (by decide) _).mono ?_
      rintro e w3 ⟨rfl, hb3⟩
      replace q4 := q4.below hb3
      replace hP := Blk.below hP hb3
      replace hk := hk.below hb3
      clear hb3
      obtain ⟨Na, hNa⟩ : ∃ Na, Na = spanN 48 57 := ⟨_, rfl⟩
      rw [← hNa]
      have HNa := Lib.hid hNa
      clear hNa
      go_wp2_with fail
      refine (span_any 65 90 (by decide) (by decide) _).mono ?_
      rintro e w4 ⟨rfl, hb3⟩
      replace q4 := q4.below hb3
      replace hP := Blk.below hP hb3
      replace hk := hk.below hb3
      clear hb3
      obtain ⟨Nb, hNb⟩ : ∃ Nb, Nb = spanN 65 90 := ⟨_, rfl⟩
      rw [← hNb]
      have HNb := Lib.hid hNb
      clear hNb
      go_wp2_with fail
      refine (join_any Na Nb _).mono ?_
      rintro e w5 ⟨rfl, hb3⟩
      replace q4 := q4.below hb3
      replace hP := Blk.below hP hb3
      replace hk := hk.below hb3
      clear hb3
      obtain ⟨Nc, hNc⟩ : ∃ Nc, Nc = Na ||| Nb := ⟨_, rfl⟩
      rw [← hNc]
      have HNc := Lib.hid hNc
      clear hNc
      go_wp2_with fail
      refine (span_any 97 122 (by decide) (by decide) _).mono ?_
      rintro e w6 ⟨rfl, hb3⟩
      replace q4 := q4.below hb3
      replace hP := Blk.below hP hb3
      replace hk := hk.below hb3
      clear hb3
      obtain ⟨Nd, hNd⟩ : ∃ Nd, Nd = spanN 97 122 := ⟨_, rfl⟩
      rw [← hNd]
      have HNd := Lib.hid hNd
      clear hNd
      go_wp2_with fail
      refine (span_any 95 95 (by decide) (by decide) _).mono ?_
      rintro e w7 ⟨rfl, hb3⟩
      replace q4 := q4.below hb3
      replace hP := Blk.below hP hb3
      replace hk := hk.below hb3
      clear hb3
      obtain ⟨Ne, hNe⟩ : ∃ Ne, Ne = spanN 95 95 := ⟨_, rfl⟩
      rw [← hNe]
      have HNe := Lib.hid hNe
      clear hNe
      go_wp2_with fail
      refine (join_any Nd Ne _).mono ?_
      rintro e w8 ⟨rfl, hb3⟩
      replace q4 := q4.below hb3
      replace hP := Blk.below hP hb3
      replace hk := hk.below hb3
      clear hb3
      obtain ⟨Nf, hNf⟩ : ∃ Nf, Nf = Nd ||| Ne := ⟨_, rfl⟩
      rw [← hNf]
      have HNf := Lib.hid hNf
      clear hNf
      go_wp2_with fail
      refine (join_any Nc Nf _).mono ?_
      rintro e w9 ⟨rfl, hb3⟩
      replace q4 := q4.below hb3
      replace hP := Blk.below hP hb3
      replace hk := hk.below hb3
      clear hb3
      obtain ⟨Ng, hNg⟩ : ∃ Ng, Ng = Nc ||| Nf := ⟨_, rfl⟩
      rw [← hNg]
      have HNg := Lib.hid hNg
      clear hNg
      rw [setV_eq]
      have HN : Hid (Ng = wordN) := Lib.hid (by rw [HNg.out]; rw [HNf.out]; rw [HNe.out]; rw [HNd.out]; rw [HNc.out]; rw [HNb.out]; rw [HNa.out]; rfl)
      have z0 : w9.cell? ⟨w.heap.size, 0, none⟩ = some (.int .u64 (wd 0 0 : Nat)) := q4.cell 0
      have g0 := q4.frozen 0
      have z1 : w9.cell? ⟨w.heap.size, 1, none⟩ = some (.int .u64 (wd 0 1 : Nat)) := q4.cell 1
      have g1 := q4.frozen 1
      have z2 : w9.cell? ⟨w.heap.size, 2, none⟩ = some (.int .u64 (wd 0 2 : Nat)) := q4.cell 2
      have g2 := q4.frozen 2
      have z3 : w9.cell? ⟨w.heap.size, 3, none⟩ = some (.int .u64 (wd 0 3 : Nat)) := q4.cell 3
      have g3 := q4.frozen 3
      have FF := Lib.hid (fin4 hk rfl q4 hP Ng)
      clear q4 hk hP
      go_wp2
      refine bodyPost_ret (ret_set rfl _ _ w.heap.size Ng false rfl FF.out.1 rfl) rfl ?_
      rw [E1.out, ← HN.out]
      exact ⟨FF.out.2.1, rfl, FF.out.2.2⟩
    by_cases h115 : b = 115
    · have e1 : escF s i = some (spaceN, false, i + 2) := by
        unfold escF
        rw [if_neg NR.out]
        rw [if_neg (by rw [← HB.out]; exact h110)]
        rw [if_neg (by rw [← HB.out]; exact h116)]
        rw [if_neg (by rw [← HB.out]; exact h114)]
        rw [if_neg (by rw [← HB.out]; exact h100)]
        rw [if_neg (by rw [← HB.out]; exact h119)]
        rw [if_pos (by rw [← HB.out]; exact h115)]
      have E1 := Lib.hid e1
      clear e1
      have n110 : ((b : Int) == 110) = false := ne_lit h110
      have n116 : ((b : Int) == 116) = false := ne_lit h116
      have n114 : ((b : Int) == 114) = false := ne_lit h114
      have n100 : ((b : Int) == 100) = false := ne_lit h100
      have n119 : ((b : Int) == 119) = false := ne_lit h119
      subst h115
      go_wp2_with fail
      refine (span_any 32 32 (by decide) (by decide) _).mono ?_
      rintro e w3 ⟨rfl, hb3⟩
      replace q4 := q4.below hb3
      replace hP := Blk.below hP hb3
      replace hk := hk.below hb3
      clear hb3
      obtain ⟨Na, hNa⟩ : ∃ Na, Na = spanN 32 32 := ⟨_, rfl⟩
      rw [← hNa]
      have HNa := Lib.hid hNa
      clear hNa
      go_wp2_with fail
      refine (span_any 9 10 (by decide) (by decide) _).mono ?_
      rintro e w4 ⟨rfl, hb3⟩
      replace q4 := q4.below hb3
      replace hP := Blk.below hP hb3
      replace hk := hk.below hb3
      clear hb3
      obtain ⟨Nb, hNb⟩ : ∃ Nb, Nb = spanN 9 10 := ⟨_, rfl⟩
      rw [← hNb]
      have HNb := Lib.hid hNb
      clear hNb
      go_wp2_with fail
      refine (join_any Na Nb _).mono ?_
      rintro e w5 ⟨rfl, hb3⟩
      replace q4 := q4.below hb3
      replace hP := Blk.below hP hb3
      replace hk := hk.below hb3
      clear hb3
      obtain ⟨Nc, hNc⟩ : ∃ Nc, Nc = Na ||| Nb := ⟨_, rfl⟩
      rw [← hNc]
      have HNc := Lib.hid hNc
      clear hNc
      go_wp2_with fail
      refine (span_any 13 13 (by decide) (by decide) _).mono ?_
      rintro e w6 ⟨rfl, hb3⟩
      replace q4 := q4.below hb3
      replace hP := Blk.below hP hb3
      replace hk := hk.below hb3
      clear hb3
      obtain ⟨Nd, hNd⟩ : ∃ Nd, Nd = spanN 13 13 := ⟨_, rfl⟩
      rw [← hNd]
      have HNd := Lib.hid hNd
      clear hNd
      go_wp2_with fail
      refine (join_any Nc Nd _).mono ?_
      rintro e w7 ⟨rfl, hb3⟩
      replace q4 := q4.below hb3
      replace hP := Blk.below hP hb3
      replace hk := hk.below hb3
      clear hb3
      obtain ⟨Ne, hNe⟩ : ∃ Ne, Ne = Nc ||| Nd := ⟨_, rfl⟩
      rw [← hNe]
      have HNe := Lib.hid hNe
      clear hNe
      rw [setV_eq]
      have HN : Hid (Ne = spaceN) := Lib.hid (by rw [HNe.out]; rw [HNd.out]; rw [HNc.out]; rw [HNb.out]; rw [HNa.out]; rfl)
      have z0 : w7.cell? ⟨w.heap.size, 0, none⟩ = some (.int .u64 (wd 0 0 : Nat)) := q4.cell 0
      have g0 := q4.frozen 0
      have z1 : w7.cell? ⟨w.heap.size, 1, none⟩ = some (.int .u64 (wd 0 1 : Nat)) := q4.cell 1
      have g1 := q4.frozen 1
      have z2 : w7.cell? ⟨w.heap.size, 2, none⟩ = some (.int .u64 (wd 0 2 : Nat)) := q4.cell 2
      have g2 := q4.frozen 2
      have z3 : w7.cell? ⟨w.heap.size, 3, none⟩ = some (.int .u64 (wd 0 3 : Nat)) := q4.cell 3
      have g3 := q4.frozen 3
      have FF := Lib.hid (fin4 hk rfl q4 hP Ne)
      clear q4 hk hP
      go_wp2
      refine bodyPost_ret (ret_set rfl _ _ w.heap.size Ne false rfl FF.out.1 rfl) rfl ?_
      rw [E1.out, ← HN.out]
      exact ⟨FF.out.2.1, rfl, FF.out.2.2⟩
    by_cases h120 : b = 120
    · have e1 : escF s i = if s.size - (i + 1) < 3 ∨ hexF (bt s (i + 2)) < 0 ∨ hexF (bt s (i + 3)) < 0 then none
          else some (spanN (16 * (hexF (bt s (i + 2))).toNat + (hexF (bt s (i + 3))).toNat) (16 * (hexF (bt s (i + 2))).toNat + (hexF (bt s (i + 3))).toNat), true, i + 4) := by
        unfold escF
        rw [if_neg NR.out]
        rw [if_neg (by rw [← HB.out]; exact h110)]
        rw [if_neg (by rw [← HB.out]; exact h116)]
        rw [if_neg (by rw [← HB.out]; exact h114)]
        rw [if_neg (by rw [← HB.out]; exact h100)]
        rw [if_neg (by rw [← HB.out]; exact h119)]
        rw [if_neg (by rw [← HB.out]; exact h115)]
        rw [if_pos (by rw [← HB.out]; exact h120)]
      have E1 := Lib.hid e1
      clear e1
      have n110 : ((b : Int) == 110) = false := ne_lit h110
      have n116 : ((b : Int) == 116) = false := ne_lit h116
      have n114 : ((b : Int) == 114) = false := ne_lit h114
      have n100 : ((b : Int) == 100) = false := ne_lit h100
      have n119 : ((b : Int) == 119) = false := ne_lit h119
      have n115 : ((b : Int) == 115) = false := ne_lit h115
      subst h120
      by_cases hx3 : s.size - (i + 1) < 3
      · have hl3 : (r.size : Int) < 3 := by rw [RR.out.size]; omega
        have hl3n : r.size < 3 := by omega
        go_wp2_with fail
        refine (fail_any _ _).mono ?_
        rintro e w3 ⟨rfl, rfl⟩
        go_wp2
        rw [E1.out, if_pos (.inl hx3)]
        exact ⟨rfl, hk, rfl⟩
      · have hl3n : ¬ r.size < 3 := by rw [RR.out.size]; omega
        have hl3 : ¬ (r.size : Int) < 3 := by omega
        have g1r : 1 < r.size := by omega
        have g2r : 2 < r.size := by omega
        obtain ⟨c1, hc1⟩ : ∃ c1, c1 = bt s (i + 2) := ⟨_, rfl⟩
        obtain ⟨c2, hc2⟩ : ∃ c2, c2 = bt s (i + 3) := ⟨_, rfl⟩
        have h1r : ((r[1]'g1r).toNat : Int) = (c1 : Int) := by rw [← bt_eq g1r, RR.out.get 1 g1r, hc1]
        have h2r : ((r[2]'g2r).toNat : Int) = (c2 : Int) := by rw [← bt_eq g2r, RR.out.get 2 g2r, hc2]
        rw [← hc1, ← hc2] at E1
        clear hc1 hc2
        go_wp2_with fail
        refine (hex_any c1 _).mono ?_
        rintro e w3 ⟨rfl, rfl⟩
        by_cases hx1 : hexF c1 < 0
        · go_wp2_with fail
          refine (fail_any _ _).mono ?_
          rintro e w4 ⟨rfl, rfl⟩
          go_wp2
          rw [E1.out, if_pos (.inr (.inl hx1))]
          exact ⟨rfl, hk, rfl⟩
        · obtain ⟨u, hu, hu16⟩ := hexF_nat hx1
          have HX := Lib.hid (hex_any c1)
          rw [hu] at HX E1 ⊢
          have hu0 : ¬ (u : Int) < 0 := by omega
          clear hx1 hu
          go_wp2_with fail
          refine (hex_any c2 _).mono ?_
          rintro e w4 ⟨rfl, rfl⟩
          by_cases hx2 : hexF c2 < 0
          · go_wp2_with fail
            refine (fail_any _ _).mono ?_
            rintro e w5 ⟨rfl, rfl⟩
            go_wp2
            rw [E1.out, if_pos (.inr (.inr hx2))]
            exact ⟨rfl, hk, rfl⟩
          · obtain ⟨v, hv, hv16⟩ := hexF_nat hx2
            have HY := Lib.hid (hex_any c2)
            rw [hv] at HY E1 ⊢
            have hv0 : ¬ (v : Int) < 0 := by omega
            have e2 : escF s i = some (spanN (16 * u + v) (16 * u + v), true, i + 4) := by
              rw [E1.out, if_neg (by rintro (h | h | h) <;> omega)]
              simp
            have E2 := Lib.hid e2
            clear hx2 hv e2 E1
            have y1 : w4.cell? ⟨p, 1, none⟩ = some (.int .i64 ((i : Int) + 2)) := by have := Blk.cell hP 1; simpa using this
            have f1 := Blk.frozen hP 1
            go_upto_region 26 with fail
            rw [show (i : Int) + 2 + 2 = (i : Int) + 4 by omega]
            have hP2 : Prs (w4.setCell ⟨p, 1, none⟩ (.int .i64 ((i : Int) + 4))) p s (i + 4) := by
              have h2 := Blk.set hP 1 (.int .i64 ((i : Int) + 4))
              exact h2
            have q42 : Blk (w4.setCell ⟨p, 1, none⟩ (.int .i64 ((i : Int) + 4))) w.heap.size (setC 0) 84 := Blk.other q4 _ _ hne
            have hk2 : Kp (fun z => z = p) w (w4.setCell ⟨p, 1, none⟩ (.int .i64 ((i : Int) + 4))) := hk.set p 1 _ (fun _ => rfl)
            generalize w4.setCell ⟨p, 1, none⟩ (.int .i64 ((i : Int) + 4)) = w6 at *
            have q4 := q42
            have hP := hP2
            have hk := hk2
            clear q42 hP2 hk2 y1 f1
            have hw16 : IntKind.i64.wrap (16 * (u : Int)) = 16 * (u : Int) := IntWalk.i64_in _ (by omega)
            have hw17 : IntKind.i64.wrap (16 * (u : Int) + (v : Int)) = ((16 * u + v : Nat) : Int) := by rw [IntWalk.i64_in _ (by omega)]; omega
            have hw18 : IntKind.u8.wrap ((16 * u + v : Nat) : Int) = ((16 * u + v : Nat) : Int) := by rw [IntKind.wrap_u8]; omega
            have h256 : 16 * u + v < 256 := by omega
            generalize 16 * u + v = z at *
            go_quiet (first | (go_at_call 73; exact Calls.quiet_of_same (HX.out _)) | (go_at_call 73; exact Calls.quiet_of_same (HY.out _)))
            have q4 : Blk (w6.drewN nq) w.heap.size (setC 0) 84 := q4
            have hP : Prs (w6.drewN nq) p s (i + 4) := hP
            have hk : Kp (fun z => z = p) w (w6.drewN nq) := ⟨hk.os, hk.tape, hk.output, hk.size, hk.block⟩
            generalize w6.drewN nq = w7 at *
            clear hw16 hw17 hw18
            go_wp2_with fail
            refine (span_any z z h256 h256 _).mono ?_
            rintro e w8 ⟨rfl, hb3⟩
            have q4 := q4.below hb3
            have hP := Blk.below hP hb3
            have hk := hk.below hb3
            clear hb3
            obtain ⟨N, hN⟩ : ∃ N, N = spanN z z := ⟨_, rfl⟩
            rw [← hN, setV_eq]
            have HN := Lib.hid hN
            clear hN
            have z0 : w8.cell? ⟨w.heap.size, 0, none⟩ = some (.int .u64 (wd 0 0 : Nat)) := q4.cell 0
            have g0 := q4.frozen 0
            have z1 : w8.cell? ⟨w.heap.size, 1, none⟩ = some (.int .u64 (wd 0 1 : Nat)) := q4.cell 1
            have g1 := q4.frozen 1
            have z2 : w8.cell? ⟨w.heap.size, 2, none⟩ = some (.int .u64 (wd 0 2 : Nat)) := q4.cell 2
            have g2 := q4.frozen 2
            have z3 : w8.cell? ⟨w.heap.size, 3, none⟩ = some (.int .u64 (wd 0 3 : Nat)) := q4.cell 3
            have g3 := q4.frozen 3
            have FF := Lib.hid (fin4 hk rfl q4 hP N)
            clear q4 hk hP
            go_wp2
            refine bodyPost_ret (ret_set rfl _ _ w.heap.size N true rfl FF.out.1 rfl) rfl ?_
            rw [E2.out, ← HN.out]
            exact ⟨FF.out.2.1, rfl, FF.out.2.2⟩
    have e1 : escF s i = if isIn escL b then some (spanN b b, true, i + 2) else none := by
      unfold escF
      rw [if_neg NR.out]
      rw [if_neg (by rw [← HB.out]; exact h110)]
      rw [if_neg (by rw [← HB.out]; exact h116)]
      rw [if_neg (by rw [← HB.out]; exact h114)]
      rw [if_neg (by rw [← HB.out]; exact h100)]
      rw [if_neg (by rw [← HB.out]; exact h119)]
      rw [if_neg (by rw [← HB.out]; exact h115)]
      rw [if_neg (by rw [← HB.out]; exact h120)]
      rw [← HB.out]
    have E1 := Lib.hid e1
    clear e1
    have n110 : ((b : Int) == 110) = false := ne_lit h110
    have n116 : ((b : Int) == 116) = false := ne_lit h116
    have n114 : ((b : Int) == 114) = false := ne_lit h114
    have n100 : ((b : Int) == 100) = false := ne_lit h100
    have n119 : ((b : Int) == 119) = false := ne_lit h119
    have n115 : ((b : Int) == 115) = false := ne_lit h115
    have n120 : ((b : Int) == 120) = false := ne_lit h120
    have hx : r.extract 0 1 = ⟨#[b.toUInt8]⟩ := by
      have h1 : (r.extract 0 1).data.toList = [b.toUInt8] := by
        rw [Lib.extract_data, List.drop_zero]
        have h3 := RR.out.get 0 hr1
        rw [Nat.add_zero, ← HB.out] at h3
        have h2 : 0 < r.data.toList.length := hr1
        rw [List.take_succ_eq_append_getElem h2]
        unfold bt at h3
        rw [List.getD_eq_getElem?_getD, List.getElem?_eq_getElem h2] at h3
        simp only [Option.getD_some] at h3
        rw [← h3]
        simp
      have h2 : (r.extract 0 1).data = #[b.toUInt8] := Array.toList_inj.1 h1
      rw [← h2]
    have h1r : (1 : Int) ≤ (r.size : Int) := by omega
    have h1n : 1 ≤ r.size := hr1
    go_wp2_with fail
    refine (contains_esc b _).mono ?_
    rintro e w3 ⟨rfl, rfl⟩
    clear hx
    cases hc : isIn escL b with
    | false =>
      go_wp2_with fail
      refine (fail_any _ _).mono ?_
      rintro e w4 ⟨rfl, rfl⟩
      go_wp2
      rw [E1.out, hc]
      exact ⟨rfl, hk, rfl⟩
    | true =>
      have e2 : escF s i = some (spanN b b, true, i + 2) := by rw [E1.out, hc]; rfl
      have E2 := Lib.hid e2
      clear e2
      go_wp2_with fail
      refine (span_any b b hbl hbl _).mono ?_
      rintro e w4 ⟨rfl, hb3⟩
      replace q4 := q4.below hb3
      replace hP := Blk.below hP hb3
      replace hk := hk.below hb3
      clear hb3
      obtain ⟨N, hN⟩ : ∃ N, N = spanN b b := ⟨_, rfl⟩
      rw [← hN, setV_eq]
      have HN := Lib.hid hN
      clear hN
      have z0 : w4.cell? ⟨w.heap.size, 0, none⟩ = some (.int .u64 (wd 0 0 : Nat)) := q4.cell 0
      have g0 := q4.frozen 0
      have z1 : w4.cell? ⟨w.heap.size, 1, none⟩ = some (.int .u64 (wd 0 1 : Nat)) := q4.cell 1
      have g1 := q4.frozen 1
      have z2 : w4.cell? ⟨w.heap.size, 2, none⟩ = some (.int .u64 (wd 0 2 : Nat)) := q4.cell 2
      have g2 := q4.frozen 2
      have z3 : w4.cell? ⟨w.heap.size, 3, none⟩ = some (.int .u64 (wd 0 3 : Nat)) := q4.cell 3
      have g3 := q4.frozen 3
      have FF := Lib.hid (fin4 hk rfl q4 hP N)
      clear q4 hk hP
      go_wp2
      refine bodyPost_ret (ret_set rfl _ _ w.heap.size N true rfl FF.out.1 rfl) rfl ?_
      rw [E2.out, ← HN.out]
      exact ⟨FF.out.2.1, rfl, FF.out.2.2⟩
end Go.Proofs.YtlocogccjlecjaaDoor
