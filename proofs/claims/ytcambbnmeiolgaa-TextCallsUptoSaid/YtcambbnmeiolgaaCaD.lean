import Derived.Test.YtcambbnmeiolgaaCaB
import Derived.Test.YtcambbnmeiolgaaAllsW
namespace Go.Proofs.Ytcambbnmeiolgaa
open Go.RowKit
/-- what the reference's Feed leaves: the bytes, and the stream -/
def FedOutR (w : World) (r : Nat) (Av Av' As cv : Value) (sts : List (List UInt8)) (s : S3) (N : Nat) (en : Ending) (w' : World) : Prop :=
  ∃ u cv' came' given' done' long', en = .returned (.tuple #[u, .int .i64 0]) ∧ w'.ownsRow w.heap.size 5 1 u s.2.1.length (B8 s.2.1) ∧ RfS w r Av Av' As cv w' cv' came' given' done' long' ∧ RefB sts (s.1, [], s.2.2) given' (toU came') done' long' ∧ (done' = false → given' = came'.length - waitsL sts (toU came')) ∧ came'.length ≤ N ∧ (∀ x ∈ came', 0 ≤ x ∧ x < 256)
theorem feedU_stop {sts : List (List UInt8)} {wds : List (List Int)} {s : S3} {l : List Int} {j : Nat} (h : (feedU sts wds s (l.take j)).2.2 = true) : feedU sts wds s l = feedU sts wds s (l.take j) := by
  conv => lhs; rw [← List.take_append_drop j l, feedU_append]
  exact feedU_over sts wds (l.drop j) _ h
/-- gives, at the end of a Feed -/
theorem gives_fed (w wr : World) (r : Nat) (A A' S : Option Addr) (n m sn c c' sc : Nat) (cv cv2 : Value) (strs : List ByteArray)
    (hst : ∀ w', Kp (Rch r cv) w w' → Rd w' S (strs.map Value.string)) (hS : strs.length = sn) (hsn : sn ≤ 140737488355328) (h16 : ∀ s ∈ strs, 1 ≤ s.size ∧ s.size ≤ 16)
    (came : List Int) (given long N : Nat) (done : Bool) (s : S3) (h : RfS w r (.slice A n c) (.slice A' m c') (.slice S sn sc) cv wr cv2 came given done long) (hB : RefB (strs.map lst) s given (toU came) done long) (hlen : came.length ≤ 70368744177664) (hby : ∀ x ∈ came, 0 ≤ x ∧ x < 256) (hN : came.length ≤ N) :
    Calls Try.prog 55 #[.pointer (some ⟨r, 0, none⟩)] wr fun en w' => ∃ u, en = .returned u ∧ FedOutR w r (.slice A n c) (.slice A' m c') (.slice S sn sc) cv (strs.map lst) s N (.returned (.tuple #[u, .int .i64 0])) w' := by
  refine (gives_any w wr r A A' S n m sn c c' sc cv cv2 strs hst hS hsn h16 came given long done s h hB hlen hby).mono ?_
  rintro en w' ⟨u, rfl, ho, hr⟩
  refine ⟨u, rfl, u, cv2, came, _, done, long, rfl, own_base ho h.kp.size, hr, refB_take hB, fun hd => ?_, hN, hby⟩
  subst hd
  show (toU came).length - _ = _
  rw [toU_length]
set_option maxRecDepth 100000 in
set_option maxHeartbeats 4000000 in
theorem fedR_any (w : World) (r : Nat) (A A' S X : Option Addr) (n m sn ln c c' sc lc : Nat) (cv : Value) (bs : List Int) (ps : List (Int × Int)) (strs : List ByteArray) (l : List Int)
    (hst : ∀ w', Kp (Rch r cv) w w' → Voc w' A A' n m bs ps ∧ Rd w' S (strs.map Value.string) ∧ Rd w' X (I64 l)) (hl : l.length = ln) (hln : ln ≤ 1048576) (hS : strs.length = sn) (hsn : sn ≤ 140737488355328) (h16 : ∀ s ∈ strs, 1 ≤ s.size ∧ s.size ≤ 16) (hw16 : ∀ l ∈ toks bs ps, l.length ≤ 16 ∧ ∀ x ∈ l, 0 ≤ x ∧ x < 256)
    (came : List Int) (given long : Nat) (done : Bool) (t : List UInt8) (h : RfS w r (.slice A n c) (.slice A' m c') (.slice S sn sc) cv w cv came given done long) (hB : RefB (strs.map lst) (t, [], done) given (toU came) done long) (hgv : done = false → given = came.length - waitsL (strs.map lst) (toU came)) (hN : came.length ≤ 70000000000000) (hby : ∀ x ∈ came, 0 ≤ x ∧ x < 256) :
    Calls Try.prog 37 #[.pointer (some ⟨r, 0, none⟩), .slice X ln lc] w fun en w' =>
      (¬ okTs (toks bs ps).length l ∧ en = .returned (.tuple #[.slice none 0 0, .int .i64 52]) ∧ Below w.heap.size w w') ∨
      (okTs (toks bs ps).length l ∧ FedOutR w r (.slice A n c) (.slice A' m c') (.slice S sn sc) cv (strs.map lst) (feedU (strs.map lst) (toks bs ps) (t, [], done) l) (came.length + 16 * ln) en w') := by
  have a0 : (⟨r, 0, none⟩ : Addr).add 0 = ⟨r, 0, none⟩ := by simpa using addr_add r 0 0
  have a5 : (⟨r, 0, none⟩ : Addr).add 5 = ⟨r, 5, none⟩ := by simpa using addr_add r 0 5
  have SZ := Lib.hid (fun w' (hb : Below w.heap.size w w') => refSize_any A A' n m c c' bs ps w' (hst w' (.of_below hb)).1)
  rw [szV_toks] at SZ
  have RX := Lib.hid (fun w' (hk : Kp (Rch r cv) w w') => (hst w' hk).2.2)
  have HST := Lib.hid hst
  have HB := Lib.hid hB
  have HBY := Lib.hid hby
  have HL := Lib.hid hl
  have HR := Lib.hid h
  have HGV := Lib.hid hgv
  have H16 := Lib.hid h16
  have W16 := Lib.hid hw16
  clear hst hB hby h hgv h16 hw16
  go_enter Try.func37, Try.ntmps37
  go_wp2
  go_loopw [6] (fun iv wr => ∃ k : Nat, k ≤ ln ∧ iv = .int .i64 (k : Int) ∧ okTs (toks bs ps).length (l.take k) ∧ Below w.heap.size w wr) (fun iv _ => ln - (intOf iv).toNat)
  case atStart => exact ⟨0, by omega, rfl, fun x hx => by simp at hx, Below.refl _ _⟩
  case round =>
    obtain ⟨k, hk, rfl, hok, hbl⟩ := hrel
    have OK := Lib.hid hok
    clear hok
    have hR := HR.out.below hbl
    have x0 : wr.cell? ⟨r, 0, none⟩ = some (.slice A n c) := hR.bk.cell _
    have x1 : wr.cell? ⟨r, 1, none⟩ = some (.slice A' m c') := hR.bk.cell _
    have x5 : wr.cell? ⟨r, 5, none⟩ = some (.bool done) := hR.bk.cell _
    by_cases hlt : k < ln
    · have g1 : (k : Int) < (ln : Int) := by omega
      obtain ⟨b, of, rfl, y0⟩ := (RX.out wr (.of_below hbl)).i64 k (by rw [HL.out]; exact hlt)
      have ea := addr_add b of k
      have TK := Lib.hid (List.take_succ_eq_append_getElem (show k < l.length by rw [HL.out]; exact hlt))
      have MEM := Lib.hid (List.getElem_mem (show k < l.length by rw [HL.out]; exact hlt))
      have YW := Lib.hid (fun w' (hb : Below w.heap.size w w') => (show w'.cell? ⟨b, of + k, none⟩ = some (.int .i64 (l[k]'(by rw [HL.out]; exact hlt))) by
        obtain ⟨b2, o2, he, hy⟩ := (RX.out w' (.of_below hb)).i64 k (by rw [HL.out]; exact hlt)
        injection he with he
        injection he with e1 e2
        subst e1 e2
        exact hy))
      generalize (l[k]'(by rw [HL.out]; exact hlt)) = v at *
      have x0' : wr.drew.cell? ⟨r, 0, none⟩ = some (.slice A n c) := x0
      have x1' : wr.drew.cell? ⟨r, 1, none⟩ = some (.slice A' m c') := x1
      have y0' : wr.drew.cell? ⟨b, of + k, none⟩ = some (.int .i64 v) := y0
      clear hR
      by_cases hneg : v < 0
      · have d1 : decide (v < 0) = true := decide_eq_true hneg
        have NOK := Lib.hid (show ¬ okTs (toks bs ps).length l from fun h => by have := (h v MEM.out).1; omega)
        go_wp2
        go_quiet (fail)
        all_goals go_wp2
        go_returns
        exact .inl ⟨NOK.out, rfl, bdraw hbl _⟩
      · have d1 : decide (v < 0) = false := decide_eq_false hneg
        by_cases hbig : ((toks bs ps).length : Int) ≤ v
        · have d2 : decide (((toks bs ps).length : Int) ≤ v) = true := decide_eq_true hbig
          have NOK := Lib.hid (show ¬ okTs (toks bs ps).length l from fun h => by have := (h v MEM.out).2; omega)
          go_wp2
          go_region_law (rw [if_pos (by kernel_rfl)]; (try go_simp); go_at_call 53; refine (SZ.out _ hbl.drew).mono ?_; rintro e w4 ⟨rfl, hb4⟩; have y4 := YW.out w4 (bthen hbl.drew hb4))
          all_goals go_wp2
          all_goals (go_returns; exact .inl ⟨NOK.out, rfl, bthen hbl.drew hb4⟩)
        · have d2 : decide (((toks bs ps).length : Int) ≤ v) = false := decide_eq_false hbig
          have OK2 := Lib.hid (show okTs (toks bs ps).length (l.take (k + 1)) from fun x hx => by
            rw [TK.out] at hx
            rcases List.mem_append.1 hx with h | h
            · exact OK.out x h
            · rw [List.mem_singleton.1 h]; omega)
          go_wp2
          go_region_law (rw [if_pos (by kernel_rfl)]; (try go_simp); go_at_call 53; refine (SZ.out _ hbl.drew).mono ?_; rintro e w4 ⟨rfl, hb4⟩; have y4 := YW.out w4 (bthen hbl.drew hb4))
          all_goals go_wp2
          all_goals (go_roundw; (case rel => exact ⟨k + 1, by omega, by go_num, OK2.out, bthen hbl.drew hb4⟩); (case measure => simp [intOf]; omega))
    · obtain rfl : k = ln := by omega
      have OKA := Lib.hid (show okTs (toks bs ps).length l by have := OK.out; rwa [List.take_of_length_le (by rw [HL.out]; omega)] at this)
      cases done with
      | true =>
        have OUT := Lib.hid (show FedOutR w r (.slice A n c) (.slice A' m c') (.slice S sn sc) cv (strs.map lst) (feedU (strs.map lst) (toks bs ps) (t, [], true) l) (came.length + 16 * k) (.returned (.tuple #[.slice none 0 0, .int .i64 0])) wr from by
          rw [feedU_over (strs.map lst) (toks bs ps) l (t, [], true) rfl]
          exact ⟨_, cv, came, given, true, long, rfl, World.ownsRow_nil _ _ _ _, hR, HB.out, fun h => (by cases h), by omega, HBY.out⟩)
        clear hR
        go_wp2
        go_returns
        exact .inr ⟨OKA.out, OUT.out⟩
      | false =>
        clear x0 x1
        have HR2 := Lib.hid hR
        clear hR
        go_wp2
        clear x5
        go_loopw [7] (fun iv wr => ∃ (j : Nat) (cv2 : Value) (came2 : List Int) (done2 : Bool) (long2 : Nat), j ≤ k ∧ iv = .int .i64 (j : Int) ∧ RfS w r (.slice A n c) (.slice A' m c') (.slice S sn sc) cv wr cv2 came2 given done2 long2 ∧ RefB (strs.map lst) (feedU (strs.map lst) (toks bs ps) (t, [], false) (l.take j)) given (toU came2) done2 long2 ∧ came2.length ≤ came.length + 16 * j ∧ (∀ x ∈ came2, 0 ≤ x ∧ x < 256)) (fun iv _ => k - (intOf iv).toNat)
        case atStart => exact ⟨0, cv, came, false, long, by omega, rfl, HR2.out, HB.out, by omega, HBY.out⟩
        case round =>
          clear hbl
          obtain ⟨j, cv2, came2, done2, long2, hj, rfl, hR, hRB, hlen2, hby2⟩ := hrel
          have x5 : wr.cell? ⟨r, 5, none⟩ = some (.bool done2) := hR.bk.cell _
          have RB := Lib.hid hRB
          have BY2 := Lib.hid hby2
          have HR3 := Lib.hid hR
          clear hRB hby2 hR
          cases done2 with
          | true =>
            have FU := Lib.hid (feedU_stop RB.out.ov)
            have GIV := Lib.hid (gives_fed w wr r A A' S n m sn c c' sc cv cv2 strs (fun w' hk => (HST.out w' hk).2.1) hS hsn H16.out came2 given long2 (came.length + 16 * k) true _ HR3.out RB.out (by omega) BY2.out (by omega))
            by_cases hlt : j < k
            · have g1 : (j : Int) < (k : Int) := by omega
              go_wp2_with fail
              refine GIV.out.mono ?_
              rintro e w4 ⟨u, rfl, hO⟩
              have HO := Lib.hid hO
              clear hO
              go_wp2
              go_returns
              exact .inr ⟨OKA.out, by rw [FU.out]; exact HO.out⟩
            · have g1 : ¬ (j : Int) < (k : Int) := by omega
              go_wp2_with fail
              refine GIV.out.mono ?_
              rintro e w4 ⟨u, rfl, hO⟩
              have HO := Lib.hid hO
              clear hO
              go_wp2
              go_returns
              exact .inr ⟨OKA.out, by rw [FU.out]; exact HO.out⟩
          | false =>
            by_cases hlt : j < k
            · have g1 : (j : Int) < (k : Int) := by omega
              obtain ⟨b, of, rfl, y0⟩ := (RX.out wr HR3.out.kp).i64 j (by rw [HL.out]; exact hlt)
              have ea := addr_add b of j
              have NX := Lib.hid (show feedU (strs.map lst) (toks bs ps) (t, [], false) (l.take (j + 1)) = tokU (strs.map lst) (toks bs ps) (feedU (strs.map lst) (toks bs ps) (t, [], false) (l.take j)) (l[j]'(by rw [HL.out]; exact hlt)).toNat by
                rw [List.take_succ_eq_append_getElem (by rw [HL.out]; exact hlt), feedU_snoc])
              have hv := OKA.out (l[j]'(by rw [HL.out]; exact hlt)) (List.getElem_mem _)
              generalize (l[j]'(by rw [HL.out]; exact hlt)) = v at *
              obtain ⟨q, rfl⟩ : ∃ q : Nat, v = (q : Int) := ⟨v.toNat, by omega⟩
              rw [Int.toNat_natCast] at NX
              have hq : q < (toks bs ps).length := by omega
              go_wp2_with fail
              refine (comes_any w wr r A A' S n m sn c c' sc cv cv2 bs ps strs (fun w' hk => ⟨(HST.out w' hk).1, (HST.out w' hk).2.1⟩) hS hsn H16.out W16.out came2 given long2 _ HR3.out RB.out q (came.length + 16 * j) hq hlen2 (by omega) BY2.out).mono ?_
              rintro e w4 ⟨rfl, cv3, came3, done3, long3, h1, h2, h3, h4⟩
              rw [← NX.out] at h2
              have H1 := Lib.hid h1
              have H2 := Lib.hid h2
              clear h1 h2
              go_wp2
              go_roundw
              case rel => exact ⟨j + 1, cv3, came3, done3, long3, by omega, by go_num, H1.out, H2.out, by omega, h4⟩
              case measure => simp [intOf]; omega
            · obtain rfl : j = k := by omega
              have g1 : ¬ (j : Int) < (j : Int) := by omega
              have GIV := Lib.hid (gives_fed w wr r A A' S n m sn c c' sc cv cv2 strs (fun w' hk => (HST.out w' hk).2.1) hS hsn H16.out came2 given long2 (came.length + 16 * j) false _ HR3.out RB.out (by omega) BY2.out (by omega))
              rw [List.take_of_length_le (by rw [HL.out]; omega)] at GIV
              go_wp2_with fail
              refine GIV.out.mono ?_
              rintro e w4 ⟨u, rfl, hO⟩
              have HO := Lib.hid hO
              clear hO
              go_wp2
              go_returns
              exact .inr ⟨OKA.out, HO.out⟩
end Go.Proofs.Ytcambbnmeiolgaa
