import Derived.Test.YtlocogccjlecjaaDoorLvW
/- RegexLives: its walk. -/
namespace Go.Proofs.YtlocogccjlecjaaDoor
open Go.RowKit
set_option maxRecDepth 100000 in
set_option maxHeartbeats 8000000 in
theorem lawLives_any (s : ByteArray) (w : World) (hT : Tab w) : Calls Tryd.prog 9 #[.string s] w fun e w' => e = .returned (.bool true) ∧ Below w.heap.size w w' := by
  have hL := lives_any w hT
  go_enter Tryd.func9, Tryd.ntmps9
  go_wp2_with fail
  refine hL.mono ?_
  rintro e w1 ⟨rfl, hb1⟩
  have hC := compile_any s w1 (hT.below hb1)
  go_wp2_with fail
  refine hC.mono ?_
  rintro e w2 ⟨hb2, hcm⟩
  have hb12 := hb1.trans (hb2.mono hb1.size)
  clear hL hC
  cases hcm with
  | bad h =>
    go_wp2
    go_returns
    exact ⟨rfl, hb12⟩
  | many h h1 h2 h3 =>
    go_wp2
    go_returns
    exact ⟨rfl, hb12⟩
  | @ok t d q ls hP hne h1 hl hd =>
    have hs := dfaS_of h1 hl hd
    have HP := Lib.hid (And.intro hP (And.intro hne (And.intro h1 hl)))
    have hst := states_ok hs
    have hpos := hs.pos
    have hle := hs.le
    have HS := Lib.hid hs
    clear hs hd h1 hl hP hne hT hb1 hb2
    have HB := Lib.hid hb12
    clear hb12
    go_wp2_with fail
    refine hst.mono ?_
    rintro e w3 ⟨rfl, rfl⟩
    clear hst
    generalize hn : ls.length = n at *
    have hn1 : ¬ (((n : Nat) : Int) < 1) := by omega
    have hn64 : ¬ ((64 : Int) < ((n : Nat) : Int)) := by omega
    go_wp2
    go_loopw [8, 9, 10] (fun lv mv iv wr => ∃ (i : Nat) (a b : List Bool), iv = .int .i64 ((i : Nat) : Int) ∧ i ≤ n ∧ a.length = i ∧ b.length = i ∧ (∀ (j : Nat) (st : St), j < i → q[j]? = some st → a[j]? = some st.2) ∧ (0 < i → b[0]? = some true) ∧ Lm w2.heap.size lv mv a b w2 wr) (fun _ _ iv _ => n - (intOf iv).toNat)
    case atStart => exact ⟨0, [], [], rfl, Nat.zero_le _, rfl, rfl, fun j st h => by omega, fun h => by omega, ⟨own_nil _ _ _ _, own_nil _ _ _ _, fun z hz => by simp [Value.ownBlock] at hz, Below.refl _ _, Nat.le_refl _, Nat.le_refl _⟩⟩
    case round =>
      obtain ⟨i, a, b, rfl, hin, ha, hbl, hacc, hm0, lm⟩ := hrel
      have HA := Lib.hid (And.intro ha (And.intro hbl (And.intro hacc hm0)))
      clear ha hbl hacc hm0
      by_cases hi : i = n
      · have hi2 : ¬ (((i : Nat) : Int) < ((n : Nat) : Int)) := by omega
        have hla : a.length = n := HA.out.1.trans hi
        have hlb : b.length = n := HA.out.2.1.trans hi
        have hacc : ∀ (j : Nat) (st : St), q[j]? = some st → st.2 = true → a[j]? = some true := fun j st hq ht => by
          rw [HA.out.2.2.1 j st (by have h1 := lt_of_some hq; have h2 := HP.out.2.2.2; omega) hq, ht]
        have hb0 : b[0]? = some true := HA.out.2.2.2 (by omega)
        obtain ⟨lg, lc, hlv⟩ := own_some lm.ol (by omega)
        obtain ⟨mg, mc, hmv⟩ := own_some lm.om (by omega)
        rw [hla] at hlv
        rw [hlb] at hmv
        subst hlv hmv
        have HLS := Lib.hid (show cmpC (rdF t [] []).2.1 (rdF t [] []).2.2 (rdF t [] []).1.l ((rdF t [] []).1.f, (rdF t [] []).1.e) ls.length = some (q, ls) by rw [hn]; exact HP.out.2.2.1)
        have LM := Lib.hid lm
        have HI := Lib.hid (And.intro hla (And.intro hlb (And.intro hacc hb0)))
        clear hi hla hlb hacc hb0 lm HA hin
        go_wp2
        clear hi2
        go_loopw [11, 12] (fun nv sv wr => ∃ (s nx : Nat) (b : List Bool), nv = .int .i64 ((nx : Nat) : Int) ∧ sv = .int .i64 ((s : Nat) : Int) ∧ s ≤ n ∧ nx ≤ n ∧ CntS (rdF t [] []).2.1 (rdF t [] []).2.2 (rdF t [] []).1.l ((rdF t [] []).1.f, (rdF t [] []).1.e) ls s nx ∧ b.length = n ∧ (∀ i, i < nx → b[i]? = some true) ∧
          Lm w2.heap.size (.slice (some ⟨lg, 0, none⟩) n lc) (.slice (some ⟨mg, 0, none⟩) n mc) a b w2 wr) (fun _ sv _ => n - (intOf sv).toNat)
        case atStart => exact ⟨0, 1, b, rfl, rfl, Nat.zero_le _, hpos, CntS.zero, HI.out.2.1, fun i hi => by obtain rfl : i = 0 := by omega
                                                                                                             exact HI.out.2.2.2, LM.out⟩
        case round =>
          clear LM
          obtain ⟨s1, nx, b1, rfl, rfl, hsn, hnx, hcnt, hb1, hm1, lm⟩ := hrel
          by_cases hi : s1 = n
          · have hi2 : ¬ (((s1 : Nat) : Int) < ((n : Nat) : Int)) := by omega
            have hnxn : nx = n := by
              have h1 : CntS (rdF t [] []).2.1 (rdF t [] []).2.2 (rdF t [] []).1.l ((rdF t [] []).1.f, (rdF t [] []).1.e) ls ls.length nx := by rw [hn, ← hi]; exact hcnt
              have h2 := CntS.last HLS.out (by rw [hn]; exact HP.out.2.2.2) h1
              omega
            have hlive : ∀ i, i < q.length → Live q ls i := pars_live HP.out.1 HP.out.2.1 (by rw [hn]; exact HP.out.2.2.1) (by rw [hn]; exact HP.out.2.2.2)
            have HV := Lib.hid (And.intro hnxn hlive)
            clear hcnt hm1 hi hnxn hlive
            go_wp2
            clear hi2
            go_loopw [16] (fun rv wr => ∃ (r : Nat) (a2 : List Bool), rv = .int .i64 ((r : Nat) : Int) ∧ r ≤ n ∧ a2.length = n ∧ (∀ (j : Nat) (st : St), q[j]? = some st → st.2 = true → a2[j]? = some true) ∧ Marked r a2 ∧
              Lm w2.heap.size (.slice (some ⟨lg, 0, none⟩) n lc) (.slice (some ⟨mg, 0, none⟩) n mc) a2 b1 w2 wr) (fun rv _ => n - (intOf rv).toNat)
            case atStart => exact ⟨0, a, rfl, Nat.zero_le _, HI.out.1, HI.out.2.2.1, .inl (Nat.zero_le _), lm⟩
            case round =>
              clear lm
              obtain ⟨r, a2, rfl, hrn, ha2, hac2, hmk, lm2⟩ := hrel
              by_cases hr : r = n
              · have hr2 : ¬ (((r : Nat) : Int) < ((n : Nat) : Int)) := by omega
                have hall := marked_all ha2 (hr ▸ hmk)
                have hnn : (((nx : Nat) : Int) == ((n : Nat) : Int)) = true := by rw [HV.out.1]; simp
                have R := Lib.hid (And.intro hall (And.intro lm2 ha2))
                clear hmk hac2 lm2 hr hall ha2
                go_wp2
                clear hr2
                go_loopw [21] (fun jv wz => ∃ j : Nat, jv = .int .i64 ((j : Nat) : Int) ∧ j ≤ n ∧ Lm w2.heap.size (.slice (some ⟨lg, 0, none⟩) n lc) (.slice (some ⟨mg, 0, none⟩) n mc) a2 b1 w2 wz) (fun jv _ => n - (intOf jv).toNat)
                case atStart => exact ⟨0, rfl, Nat.zero_le _, R.out.2.1⟩
                case round =>
                  obtain ⟨j, rfl, hjn, lm3⟩ := hrel
                  by_cases hj : j = n
                  · have hj2 : ¬ (((j : Nat) : Int) < ((n : Nat) : Int)) := by omega
                    have hkb := Lib.hid lm3.kb
                    clear lm3 hj
                    go_wp2
                    go_returns
                    exact ⟨rfl, HB.out.trans (hkb.out.mono HB.out.size)⟩
                  · have hj2 : ((j : Nat) : Int) < ((n : Nat) : Int) := by omega
                    have ol := lm3.ol
                    rw [R.out.2.2] at ol
                    have y := own_cell ol (BB_get (R.out.1 j (by omega)))
                    have e := show (⟨lg, 0, none⟩ : Addr).add j = ⟨lg, j, none⟩ by simpa using addr_add lg 0 j
                    have L3 := Lib.hid lm3
                    clear lm3 ol
                    go_wp2
                    go_roundw
                    case rel => exact ⟨j + 1, rfl, by omega, L3.out⟩
                    case measure => simp [intOf]; omega
              · have hr2 : ((r : Nat) : Int) < ((n : Nat) : Int) := by omega
                have HM := Lib.hid (And.intro hmk (And.intro hac2 ha2))
                clear hmk hac2 ha2
                go_wp2
                go_loopw [17] (fun sv wz => ∃ (s2 : Nat) (a3 : List Bool), sv = .int .i64 ((s2 : Nat) : Int) ∧ s2 ≤ n ∧ a3.length = n ∧ RndU ls s2 a2 a3 ∧
                  Lm w2.heap.size (.slice (some ⟨lg, 0, none⟩) n lc) (.slice (some ⟨mg, 0, none⟩) n mc) a3 b1 w2 wz) (fun sv _ => n - (intOf sv).toNat)
                case atStart => exact ⟨0, a2, rfl, Nat.zero_le _, HM.out.2.2, RndU.zero ls a2, lm2⟩
                case round =>
                  clear lm2
                  obtain ⟨s2, a3, rfl, hs2, ha3, hru, lm3⟩ := hrel
                  by_cases hsn2 : s2 = n
                  · have hs3 : ¬ (((s2 : Nat) : Int) < ((n : Nat) : Int)) := by omega
                    have hmk3 := marked_round HV.out.2 HM.out.2.1 (by have h1 := HM.out.2.2; have h2 := HP.out.2.2.2; omega) (by have h2 := HP.out.2.2.2; omega) ((hsn2 ▸ hru).all HM.out.2.2) HM.out.1
                    have R := Lib.hid (And.intro ha3 (And.intro (fun (j : Nat) (st : St) (h1 : q[j]? = some st) (h2 : st.2 = true) => hru.up j (HM.out.2.1 j st h1 h2)) (And.intro hmk3 lm3)))
                    clear ha3 hru hmk3 lm3 hsn2
                    go_wp2
                    go_roundw
                    case rel => exact ⟨r + 1, a3, rfl, by omega, R.out.1, R.out.2.1, R.out.2.2.1, R.out.2.2.2⟩
                    case measure => simp [intOf]; omega
                  · have hs3 : ((s2 : Nat) : Int) < ((n : Nat) : Int) := by omega
                    have HR := Lib.hid (RndC.zero hru)
                    clear hru
                    go_wp2
                    go_loopw [18] (fun cv wz => ∃ (c : Nat) (a4 : List Bool), cv = .int .i64 ((c : Nat) : Int) ∧ c ≤ 256 ∧ a4.length = n ∧ RndC ls s2 c a2 a4 ∧
                      Lm w2.heap.size (.slice (some ⟨lg, 0, none⟩) n lc) (.slice (some ⟨mg, 0, none⟩) n mc) a4 b1 w2 wz) (fun cv _ => 256 - (intOf cv).toNat)
                    case atStart => exact ⟨0, a3, rfl, Nat.zero_le _, ha3, HR.out, lm3⟩
                    case round =>
                      clear lm3 HR ha3
                      obtain ⟨c, a4, rfl, hc, ha4, hrc, lm4⟩ := hrel
                      have ol := lm4.ol
                      rw [ha4] at ol
                      obtain ⟨bs, hbs⟩ : ∃ bs, a4[s2]? = some bs := ⟨_, List.getElem?_eq_getElem (by omega)⟩
                      have y := own_cell ol (BB_get hbs)
                      have e := show (⟨lg, 0, none⟩ : Addr).add s2 = ⟨lg, s2, none⟩ by simpa using addr_add lg 0 s2
                      by_cases hc2 : c = 256
                      · have hc3 : ¬ (((c : Nat) : Int) < 256) := by omega
                        have hst := hrc.stop (.inr hc2)
                        have R := Lib.hid (And.intro ha4 (And.intro hst lm4))
                        clear hst hrc ha4 lm4 ol hc2 hbs
                        go_wp2
                        go_roundw
                        case rel => exact ⟨s2 + 1, a4, rfl, by omega, R.out.1, R.out.2.1, R.out.2.2⟩
                        case measure => simp [intOf]; omega
                      · have hc3 : ((c : Nat) : Int) < 256 := by omega
                        cases bs with
                        | true =>
                          have hst := hrc.stop (.inl hbs)
                          have R := Lib.hid (And.intro ha4 (And.intro hst lm4))
                          clear hst hrc ha4 lm4 ol hc2 hbs
                          go_wp2
                          go_roundw
                          case rel => exact ⟨s2 + 1, a4, rfl, by omega, R.out.1, R.out.2.1, R.out.2.2⟩
                          case measure => simp [intOf]; omega
                        | false =>
                          obtain ⟨row, hrow⟩ : ∃ row, ls[s2]? = some row := ⟨_, List.getElem?_eq_getElem (by omega)⟩
                          have hr256 := HS.out.rows row (List.mem_of_getElem? hrow)
                          obtain ⟨x, hx⟩ : ∃ x, row[c]? = some x := ⟨_, List.getElem?_eq_getElem (by omega)⟩
                          have hent := HS.out.ent row (List.mem_of_getElem? hrow) x (List.mem_of_getElem? hx)
                          have hcv : IntKind.u8.wrap ((c : Nat) : Int) = ((c : Nat) : Int) := by rw [IntKind.wrap_u8]; omega
                          have hnext := next_ok (HS.out.below lm4.kb) s2 c row x hrow hx (by omega)
                          have fz := own_frozen (i := s2) ol
                          have HNX := Lib.hid hnext
                          clear hnext
                          go_wp2_with fail
                          refine HNX.out.mono ?_
                          rintro e6 w6 ⟨rfl, rfl⟩
                          clear HNX
                          rcases hent with rfl | ⟨k, hk, rfl⟩
                          · have R := Lib.hid (And.intro (by rw [List.length_set]; exact ha4 : (a4.set s2 false).length = n) (And.intro (hrc.miss hbs hrow hx (fun y hy => by omega)) (lm4.setL (x := false) (i := s2) ha4)))
                            clear hrc ha4 lm4 ol hbs hrow hx
                            go_wp2
                            go_roundw
                            case rel => exact ⟨c + 1, _, rfl, by omega, R.out.1, R.out.2.1, R.out.2.2⟩
                            case measure => simp [intOf]; omega
                          · obtain ⟨bk, hbk⟩ : ∃ bk, a4[k]? = some bk := ⟨_, List.getElem?_eq_getElem (by omega)⟩
                            have yk := own_cell ol (BB_get hbk)
                            have ek := show (⟨lg, 0, none⟩ : Addr).add k = ⟨lg, k, none⟩ by simpa using addr_add lg 0 k
                            have hk5 : (0 : Int) ≤ ((k : Nat) : Int) := by omega
                            have hkn : ((k : Nat) : Int) < ((n : Nat) : Int) := by omega
                            cases bk with
                            | true =>
                              have R := Lib.hid (And.intro (by rw [List.length_set]; exact ha4 : (a4.set s2 true).length = n) (And.intro (hrc.hit (by omega)) (lm4.setL (x := true) (i := s2) ha4)))
                              clear hrc ha4 lm4 ol hbs hrow hx hbk
                              go_wp2
                              go_roundw
                              case rel => exact ⟨c + 1, _, rfl, by omega, R.out.1, R.out.2.1, R.out.2.2⟩
                              case measure => simp [intOf]; omega
                            | false =>
                              have hmm : ∀ y : Nat, ((k : Nat) : Int) = ((y : Nat) : Int) → a4[y]? ≠ some true := fun y hy => by
                                have h : k = y := by omega
                                rw [← h, hbk]
                                decide
                              have R := Lib.hid (And.intro (by rw [List.length_set]; exact ha4 : (a4.set s2 false).length = n) (And.intro (hrc.miss hbs hrow hx hmm) (lm4.setL (x := false) (i := s2) ha4)))
                              clear hrc ha4 lm4 ol hbs hrow hx hbk
                              go_wp2
                              go_roundw
                              case rel => exact ⟨c + 1, _, rfl, by omega, R.out.1, R.out.2.1, R.out.2.2⟩
                              case measure => simp [intOf]; omega
          · have hi2 : ((s1 : Nat) : Int) < ((n : Nat) : Int) := by omega
            go_wp2
            go_loopw [11, 13] (fun nv cv wr => ∃ (c nx : Nat) (b : List Bool), nv = .int .i64 ((nx : Nat) : Int) ∧ cv = .int .i64 ((c : Nat) : Int) ∧ c ≤ 256 ∧ nx ≤ n ∧ s1 < nx ∧ Cnt (rdF t [] []).2.1 (rdF t [] []).2.2 (rdF t [] []).1.l ((rdF t [] []).1.f, (rdF t [] []).1.e) ls s1 c nx ∧ b.length = n ∧ (∀ i, i < nx → b[i]? = some true) ∧
              Lm w2.heap.size (.slice (some ⟨lg, 0, none⟩) n lc) (.slice (some ⟨mg, 0, none⟩) n mc) a b w2 wr) (fun _ cv _ => 256 - (intOf cv).toNat)
            case atStart => exact ⟨0, nx, b1, rfl, rfl, Nat.zero_le _, hnx, (CntS.row HLS.out (by omega) hcnt).2, (CntS.row HLS.out (by omega) hcnt).1, hb1, hm1, lm⟩
            case round =>
              clear lm hcnt hm1 hb1 hnx
              obtain ⟨c, nx2, b2, rfl, rfl, hc, hnx2, hsx, hcnt2, hb2, hm2, lm2⟩ := hrel
              have om2 := lm2.om
              rw [hb2] at om2
              by_cases hc2 : c = 256
              · have hc3 : ¬ (((c : Nat) : Int) < 256) := by omega
                have ym : wr.cell? ⟨mg, s1, none⟩ = some (.bool true) := own_cell om2 (BB_get (hm2 s1 hsx))
                have em : (⟨mg, 0, none⟩ : Addr).add s1 = ⟨mg, s1, none⟩ := by simpa using addr_add mg 0 s1
                have hns : ¬ (((nx2 : Nat) : Int) ≤ ((s1 : Nat) : Int)) := by omega
                have hst := Cnt.stop HLS.out (by omega) (hc2 ▸ hcnt2)
                have R2 := Lib.hid (And.intro hst (And.intro hb2 (And.intro hm2 lm2)))
                clear hst hcnt2 hb2 hm2 lm2 om2 hc2
                go_wp2
                go_roundw
                case rel => exact ⟨s1 + 1, nx2, b2, rfl, rfl, by omega, hnx2, R2.out.1, R2.out.2.1, R2.out.2.2.1, R2.out.2.2.2⟩
                case measure => simp [intOf]; omega
              · have hc3 : ((c : Nat) : Int) < 256 := by omega
                obtain ⟨row, x, nx3, hrow, hx, hcnt3, hcs⟩ := Cnt.step HLS.out (by omega) (by omega) hcnt2
                have hnx3 := Cnt.le HLS.out (by have h2 := HP.out.2.2.2; omega) (by omega) (by omega) hcnt3
                have hcv : IntKind.u8.wrap ((c : Nat) : Int) = ((c : Nat) : Int) := by rw [IntKind.wrap_u8]; omega
                have hnext := next_ok (HS.out.below lm2.kb) s1 c row x hrow hx (by omega)
                have HC3 := Lib.hid hcnt3
                have HNX := Lib.hid hnext
                clear hcnt2 hcnt3 hnext hrow hx
                go_wp2_with fail
                refine HNX.out.mono ?_
                rintro e w5 ⟨rfl, rfl⟩
                clear HNX
                replace hcs := hcs.imp (fun h => And.intro h.1 h.2.symm) (fun h => h.imp (fun ⟨k, h1, h2, h3⟩ => Exists.intro k (And.intro h1 (And.intro h2 h3.symm))) (fun h => And.intro h.1 h.2.symm))
                rcases hcs with ⟨rfl, rfl⟩ | ⟨k, hk, rfl, rfl⟩ | ⟨rfl, rfl⟩
                · have h1 : ¬ (((n : Nat) : Int) ≤ -1) := by omega
                  have h2 : ¬ (((nx2 : Nat) : Int) < -1) := by omega
                  have h3 : (((-1) : Int) == ((nx2 : Nat) : Int)) = false := by simp
                  have R3 := Lib.hid (And.intro hb2 (And.intro hm2 lm2))
                  clear hb2 hm2 lm2 om2
                  go_wp2
                  go_roundw
                  case rel => exact ⟨c + 1, nx2, b2, rfl, rfl, by omega, hnx2, hsx, HC3.out, R3.out.1, R3.out.2.1, R3.out.2.2⟩
                  case measure => simp [intOf]; omega
                · obtain ⟨bk, hbk⟩ : ∃ bk, b2[k]? = some bk := ⟨_, List.getElem?_eq_getElem (by omega)⟩
                  have yk : wr.cell? ⟨mg, k, none⟩ = some (.bool bk) := own_cell om2 (BB_get hbk)
                  have fk := own_frozen (i := k) om2
                  have ek : (⟨mg, 0, none⟩ : Addr).add k = ⟨mg, k, none⟩ := by simpa using addr_add mg 0 k
                  have l3 := lm2.setM (x := true) (i := k) hb2
                  have L3 := Lib.hid (And.intro l3 (And.intro hm2 hbk))
                  have hkn : ((k : Nat) : Int) < ((n : Nat) : Int) := by omega
                  have hk1 : ¬ (((k : Nat) : Int) < -1) := by omega
                  have hk2 : ¬ (((n : Nat) : Int) ≤ ((k : Nat) : Int)) := by omega
                  have hk5 : (0 : Int) ≤ ((k : Nat) : Int) := by omega
                  have hk3 : ¬ (((nx2 : Nat) : Int) < ((k : Nat) : Int)) := by omega
                  have hk4 : (((k : Nat) : Int) == ((nx2 : Nat) : Int)) = false := by simp; omega
                  have hk6 : ((k : Nat) : Int) ≠ ((nx2 : Nat) : Int) := by omega
                  have HB2 := Lib.hid hb2
                  clear hb2 hm2 lm2 om2 l3 hbk
                  go_wp2
                  go_roundw
                  case rel => exact ⟨c + 1, nx2, b2.set k true, rfl, rfl, by omega, hnx2, hsx, HC3.out, by rw [List.length_set]; exact HB2.out, fun i hi => by
                    by_cases e : k = i
                    · subst e; exact List.getElem?_set_self (lt_of_some L3.out.2.2)
                    · rw [List.getElem?_set_ne e]; exact L3.out.2.1 i hi, L3.out.1⟩
                  case measure => simp [intOf]; omega
                · obtain ⟨bk, hbk⟩ : ∃ bk, b2[nx2]? = some bk := ⟨_, List.getElem?_eq_getElem (by omega)⟩
                  have yk : wr.cell? ⟨mg, nx2, none⟩ = some (.bool bk) := own_cell om2 (BB_get hbk)
                  have fk := own_frozen (i := nx2) om2
                  have ek : (⟨mg, 0, none⟩ : Addr).add nx2 = ⟨mg, nx2, none⟩ := by simpa using addr_add mg 0 nx2
                  have l3 := lm2.setM (x := true) (i := nx2) hb2
                  have L3 := Lib.hid (And.intro l3 (And.intro hm2 hbk))
                  have hkn : ((nx2 : Nat) : Int) < ((n : Nat) : Int) := by omega
                  have hk1 : ¬ (((nx2 : Nat) : Int) < -1) := by omega
                  have hk2 : ¬ (((n : Nat) : Int) ≤ ((nx2 : Nat) : Int)) := by omega
                  have hk5 : (0 : Int) ≤ ((nx2 : Nat) : Int) := by omega
                  have hk3 : ¬ (((nx2 : Nat) : Int) < ((nx2 : Nat) : Int)) := by omega
                  have HB2 := Lib.hid hb2
                  clear hb2 hm2 lm2 om2 l3 hbk
                  go_wp2
                  go_roundw
                  case rel => exact ⟨c + 1, nx2 + 1, b2.set nx2 true, rfl, rfl, by omega, by omega, by omega, HC3.out, by rw [List.length_set]; exact HB2.out, fun i hi => by
                    by_cases e : nx2 = i
                    · subst e; exact List.getElem?_set_self (lt_of_some L3.out.2.2)
                    · rw [List.getElem?_set_ne e]; exact L3.out.2.1 i (by omega), L3.out.1⟩
                  case measure => simp [intOf]; omega
      · have hi2 : ((i : Nat) : Int) < ((n : Nat) : Int) := by omega
        have hsr := HS.out.below lm.kb
        obtain ⟨st, hst⟩ : ∃ st, q[i]? = some st := ⟨_, List.getElem?_eq_getElem (by have := HP.out.2.2.2; omega)⟩
        have hA := accepts_ok hsr i st hst
        go_wp2_with fail
        refine hA.mono ?_
        rintro e w4 ⟨rfl, rfl⟩
        have b4 : Below wr.heap.size wr (wr.alloc (.cells #[.bool st.2] 4)) := by go_grown
        have l4 := lm.below b4
        have q4 := Blk.new wr #[.bool st.2] 4
        have h4le := Nat.le_trans lm.le b4.size
        have hlen := HA.out.1
        have hlen2 := HA.out.2.1
        have o4 := l4.ol
        rw [hlen] at o4
        have L4 := Lib.hid l4
        have hi9 : i ≤ 64 := by omega
        have HST := Lib.hid hst
        clear l4 lm b4 hst hsr
        go_upto_region 14 with (at_builtin; refine appL w2.heap.size rfl _ _ 28 4 (.bool false) 1 1 rfl Tryd.underlying28 info4 rfl (by decide) (by decide) _ i (BB a) wr.heap.size #[.bool st.2] rfl rfl rfl (by simp [Value.oneCell']) q4 o4 h4le (by omega) ?_; intro g5 cap5 w5 os5 hg5 hat5)
        have l5 := L4.out.appL hlen os5 hg5 hat5
        clear os5 hg5 hat5 q4 o4 h4le L4
        by_cases hi0 : i = 0
        · have hie : (((i : Nat) : Int) == 0) = true := by rw [hi0]; rfl
          have HI0 := Lib.hid hi0
          clear hi0
          have b6 : Below w5.heap.size w5 (w5.alloc (.cells #[.bool true] 4)) := by go_grown
          have l6 := l5.below b6
          have q6 := Blk.new w5 #[.bool true] 4
          have h6le := Nat.le_trans l5.le b6.size
          have o6 := l6.om
          rw [hlen2] at o6
          have L6 := Lib.hid l6
          clear l6 l5 b6
          go_wp2_with (at_builtin; refine appL w2.heap.size rfl _ _ 28 4 (.bool false) 1 1 rfl Tryd.underlying28 info4 rfl (by decide) (by decide) _ i (BB b) w5.heap.size #[.bool true] rfl rfl rfl (by simp [Value.oneCell']) q6 o6 h6le (by omega) ?_; intro g7 cap7 w7 os7 hg7 hat7)
          have l7 := L6.out.appM hlen2 os7 hg7 hat7
          have L7 := Lib.hid l7
          clear l7 os7 hg7 hat7 L6
          go_wp2
          go_roundw
          case rel => exact ⟨i + 1, a ++ [st.2], b ++ [true], rfl, by omega, by simp [hlen], by simp [hlen2], fun j st' hj hq => by
            rcases Nat.lt_or_ge j i with h | h
            · rw [List.getElem?_append_left (by omega)]; exact HA.out.2.2.1 j st' h hq
            · obtain rfl : j = i := by omega
              rw [List.getElem?_append_right (by omega), hlen, Nat.sub_self]
              rw [HST.out] at hq
              cases hq
              rfl, fun _ => by have h : b = [] := List.eq_nil_of_length_eq_zero (hlen2.trans HI0.out); rw [h]; rfl, L7.out⟩
          case measure => simp [intOf]; omega
        · have hie : (((i : Nat) : Int) == 0) = false := by simp; omega
          have b6 : Below w5.heap.size w5 (w5.alloc (.cells #[.bool false] 4)) := by go_grown
          have l6 := l5.below b6
          have q6 := Blk.new w5 #[.bool false] 4
          have h6le := Nat.le_trans l5.le b6.size
          have o6 := l6.om
          rw [hlen2] at o6
          have L6 := Lib.hid l6
          clear l6 l5 b6
          go_wp2_with (at_builtin; refine appL w2.heap.size rfl _ _ 28 4 (.bool false) 1 1 rfl Tryd.underlying28 info4 rfl (by decide) (by decide) _ i (BB b) w5.heap.size #[.bool false] rfl rfl rfl (by simp [Value.oneCell']) q6 o6 h6le (by omega) ?_; intro g7 cap7 w7 os7 hg7 hat7)
          have l7 := L6.out.appM hlen2 os7 hg7 hat7
          have L7 := Lib.hid l7
          clear l7 os7 hg7 hat7 L6
          go_wp2
          go_roundw
          case rel => exact ⟨i + 1, a ++ [st.2], b ++ [false], rfl, by omega, by simp [hlen], by simp [hlen2], fun j st' hj hq => by
            rcases Nat.lt_or_ge j i with h | h
            · rw [List.getElem?_append_left (by omega)]; exact HA.out.2.2.1 j st' h hq
            · obtain rfl : j = i := by omega
              rw [List.getElem?_append_right (by omega), hlen, Nat.sub_self]
              rw [HST.out] at hq
              cases hq
              rfl, fun _ => by rw [List.getElem?_append_left (by omega)]; exact HA.out.2.2.2 (by omega), L7.out⟩
          case measure => simp [intOf]; omega
end Go.Proofs.YtlocogccjlecjaaDoor
