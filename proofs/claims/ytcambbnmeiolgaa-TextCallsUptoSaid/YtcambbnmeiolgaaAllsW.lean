import Derived.Test.YtcambbnmeiolgaaIter
import Derived.Sort.LoopGhostIn
namespace Go.Proofs.Ytcambbnmeiolgaa
open Go.RowKit Go.Shelf
attribute [local go_sem] Oper.semAt_some

set_option maxHeartbeats 1000000 in
/-- bpe.All -/
theorem all_any (v : Value) (w : World) (x y : Value) (hv : v = .agg #[x, y]) :
    Calls Try.prog 45 #[v] w fun e w' => e = .returned (.func (.func 56) #[] #[.pointer (some ⟨w.heap.size, 0, none⟩)]) ∧ Blk w' w.heap.size #[x, y] 37 ∧ Below w.heap.size w w' := by
  subst hv
  go_enter Try.func45, Try.ntmps45
  go_wp2
  go_returns
  exact ⟨rfl, Blk.new w _ _, by go_grown⟩
/-- the marks that the loops have left -/
def marks (Ds : List Nat) : List Deferred := Ds.map fun D => { target := .collected D, args := #[] }
theorem leaves_marks {F : Fence} {n : Nat} {P : Program} {fn : Func} {tmps : Array Value} {R : Ending → World → Prop} (B : Nat) : ∀ (Ds : List Nat) (W : World), Ds.Nodup → (∀ D ∈ Ds, B ≤ D ∧ W.heap[D]? = some (.deferred (some []))) →
    (∀ W', Sm B W W' → LeavesIn F n P fn tmps R [] .returning W') → LeavesInM F n P fn tmps R (marks Ds) .returning W := by
  intro Ds
  induction Ds with
  | nil => intro W _ _ h; exact h W (Sm.refl B W)
  | cons D r ih =>
    intro W hn hD h
    obtain ⟨h1, h2⟩ := List.nodup_cons.1 hn
    obtain ⟨hB, hd⟩ := hD D (by simp)
    refine ⟨by simp, .inl ⟨D, _, rfl, run_takeDeferred hd, ih _ h2 (fun D' hm => ⟨(hD D' (by simp [hm])).1, (World.putObj_heap_other (fun e => h1 (by subst e; exact hm))).trans (hD D' (by simp [hm])).2⟩) (fun W' hs => h W' ((Sm.putObj _ hB hd rfl).trans hs))⟩⟩

theorem exists_frame {a : Act} {F : (Nat → Value) → Act} (h : a = F (fun i => a.tmps.getD i undef)) : ∃ us, a = F us := ⟨_, h⟩
theorem szV_toks (bs : List Int) (ps : List (Int × Int)) : szV bs ps = ((toks bs ps).length : Int) := by
  unfold szV toks
  cases vocF bs ps <;> simp
theorem errT_toks (bs : List Int) (ps : List (Int × Int)) (k : Nat) (h : k < (toks bs ps).length) : errT bs ps k = 0 ∧ bytT bs ps k = tok (toks bs ps) k := by
  unfold toks at *
  unfold errT bytT
  cases hq : vocF bs ps with
  | none => rw [hq] at h; simp at h
  | some ls =>
    rw [hq] at h
    have h' : k < ls.length := h
    simp only
    rw [if_neg (by omega), if_neg (by omega), Int.toNat_natCast]
    exact ⟨rfl, rfl⟩
theorem Tw.sm {B : Nat} {w w' : World} {g h vc uc n m : Nat} {bs : List Int} {ps : List (Int × Int)} (t : Tw w g h vc uc n m bs ps) (hb : Sm B w w') : Tw w' g h vc uc n m bs ps :=
  ⟨t.r1.sm hb, t.r2.sm hb, t.l1, t.l2, t.hn, t.hm, t.b1, t.b2⟩
theorem toks_len (bs : List Int) (ps : List (Int × Int)) : (toks bs ps).length ≤ 64 := by
  unfold toks
  cases hq : vocF bs ps with
  | none => simp
  | some ls =>
    have h1 := (toks_of hq).len
    have h2 := (toks_of hq).n64
    simp
    omega
theorem toks_small (bs : List Int) (ps : List (Int × Int)) (k : Nat) : (tok (toks bs ps) k).length ≤ 16 := by
  unfold toks tok
  cases hq : vocF bs ps with
  | none => simp
  | some ls => exact (toks_of hq).small k
theorem Up.of_below {B : Nat} {W W' : World} (h : Below W.heap.size W W') : Up B W W' := ⟨h.size, fun k _ hk => h.block k hk⟩
theorem Up.set {B : Nat} {W W' : World} (h : Up B W W') {p : Nat} (hp : p < B) (v : Value) : Up B W (W'.setCell ⟨p, 0, none⟩ v) :=
  ⟨Nat.le_trans h.size (by simp), fun k hk hl => (Below.heap_setCell W' _ v k (by show k ≠ p; omega)).trans (h.same k hk hl)⟩
theorem results_cell1 {fn : Func} {p : Tmp} (h : fn.results = #[.cell p 4]) (tmps : Array Value) (w : World) (a : Addr) (v : Value) (hp : tmps.getD p undef = .pointer (some a)) (hc : w.cell? a = some v) : (results fn tmps).run Try.prog w = .ok v w := by
  have hp' : tmps[p]?.getD undef = .pointer (some a) := by simpa using hp
  have hl : (loadVar 4 a).run Try.prog w = .ok v w := by
    have ha : (isAgg 4).run Try.prog w = .ok false w := run_isAgg_plain Try.underlying4 rfl w
    simp [loadVar, ha, hc]
  simp [results, h, hp', asAddr, hl]
/-- what lies there while the rounds run -/
structure Head (w W : World) (A A' : Option Addr) (n m c c' g h vc uc : Nat) (bs : List Int) (ps : List (Int × Int)) (most : Int) (N M : Nat) : Prop where
  q0 : Blk W w.heap.size #[.slice A n c, .slice A' m c'] 37
  q1 : Blk W (w.heap.size + 1) #[.int .i64 most] 3
  q2 : Blk W (w.heap.size + 1 + 1) #[.bool false] 4
  q3 : Blk W N #[.slice (some ⟨g, 0, none⟩) n vc, .slice (some ⟨h, 0, none⟩) m uc] 37
  q4 : Blk W M #[.slice (some ⟨g, 0, none⟩) n vc, .slice (some ⟨h, 0, none⟩) m uc] 37
  tw : Tw W g h vc uc n m bs ps
  hb : Below w.heap.size w W
  hM : w.heap.size + 1 + 1 < M
theorem Head.below {w W W' : World} {A A' : Option Addr} {n m c c' g h vc uc : Nat} {bs : List Int} {ps : List (Int × Int)} {most : Int} {N M : Nat} (H : Head w W A A' n m c c' g h vc uc bs ps most N M) (hb : Below W.heap.size W W') : Head w W' A A' n m c c' g h vc uc bs ps most N M :=
  ⟨H.q0.below hb, H.q1.below hb, H.q2.below hb, H.q3.below hb, H.q4.below hb, H.tw.below hb, bthen H.hb hb, H.hM⟩
theorem Head.sm {B : Nat} {w W W' : World} {A A' : Option Addr} {n m c c' g h vc uc : Nat} {bs : List Int} {ps : List (Int × Int)} {most : Int} {N M : Nat} (H : Head w W A A' n m c c' g h vc uc bs ps most N M) (hB : w.heap.size ≤ B) (hb : Sm B W W') : Head w W' A A' n m c c' g h vc uc bs ps most N M :=
  ⟨H.q0.sm hb, H.q1.sm hb, H.q2.sm hb, H.q3.sm hb, H.q4.sm hb, H.tw.sm hb, Below.sm H.hb hB (Nat.le_refl _) hb, H.hM⟩
/-- the loops' blocks for deferred calls -/
structure Marked (W : World) (M : Nat) (Ds : List Nat) : Prop where
  nodup : Ds.Nodup
  all : ∀ D ∈ Ds, M ≤ D ∧ W.heap[D]? = some (.deferred (some []))
theorem Marked.nil (W : World) (M : Nat) : Marked W M [] := ⟨by simp, by simp⟩
theorem Marked.below {W W' : World} {M : Nat} {Ds : List Nat} (h : Marked W M Ds) (hb : Below W.heap.size W W') : Marked W' M Ds :=
  ⟨h.nodup, fun D hD => ⟨(h.all D hD).1, (hb.block D (Array.getElem?_eq_some_iff.1 (h.all D hD).2).1).trans (h.all D hD).2⟩⟩
theorem Marked.lt {W : World} {M : Nat} {Ds : List Nat} (h : Marked W M Ds) : ∀ D ∈ Ds, D < W.heap.size := fun D hD => (Array.getElem?_eq_some_iff.1 (h.all D hD).2).1
theorem Marked.sm {B : Nat} {W W' : World} {M : Nat} {Ds : List Nat} (h : Marked W M Ds) (hB : ∀ D ∈ Ds, D < B) (hs : Sm B W W') : Marked W' M Ds :=
  ⟨h.nodup, fun D hD => ⟨(h.all D hD).1, (hs.low D (h.lt D hD) (hB D hD)).trans (h.all D hD).2⟩⟩
theorem Marked.cons {W : World} {M : Nat} {Ds : List Nat} (h : Marked W M Ds) {D : Nat} (hn : ∀ E ∈ Ds, E < D) (hM : M ≤ D) (hD : W.heap[D]? = some (.deferred (some []))) : Marked W M (D :: Ds) :=
  ⟨List.nodup_cons.2 ⟨fun hm => Nat.lt_irrefl _ (hn D hm), h.nodup⟩, fun E hE => by
    rcases List.mem_cons.1 hE with rfl | hE
    · exact ⟨hM, hD⟩
    · exact h.all E hE⟩

end Go.Proofs.Ytcambbnmeiolgaa
