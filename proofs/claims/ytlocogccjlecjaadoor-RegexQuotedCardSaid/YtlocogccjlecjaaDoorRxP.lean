import Derived.Test.YtlocogccjlecjaaDoorNext
/- The grammar of expressions, as a relation between a place and what is read from there on: a tree and the place behind it, or the place of the fault. -/
namespace Go.Proofs.YtlocogccjlecjaaDoor
open Go.RowKit
/-- an expression's tree: a row is eps, then seq, part by part; a choice is no, then alt -/
inductive Rx where
  | leaf (n : Nat)
  | eps
  | seq (a b : Rx)
  | no
  | alt (a b : Rx)
  | loop (a : Rx) (none more : Bool)
/-- c stands in the text l -/
def isIn (l : List Nat) (c : Nat) : Bool := decide (0 ≤ Lib.indexByte (l.map Nat.toUInt8) c.toUInt8)
/-- the length, the byte: 'at' is a place in the text -/
def eof (s : ByteArray) (i : Nat) : Bool := decide (s.size ≤ i)
/-- '()[]|*+?.-^\' -/
def escL : List Nat := [40, 41, 91, 93, 124, 42, 43, 63, 46, 45, 94, 92]
/-- '][^-' -/
def innL : List Nat := [93, 91, 94, 45]
/-- '*+?' -/
def sufL : List Nat := [42, 43, 63]
def fullN : Nat := spanN 0 255
def wordN : Nat := (spanN 48 57 ||| spanN 65 90) ||| (spanN 97 122 ||| spanN 95 95)
def spaceN : Nat := (spanN 32 32 ||| spanN 9 10) ||| spanN 13 13
/-- an escape, from its backslash at i on: its bytes, is it a single one, where it ends -/
def escF (s : ByteArray) (i : Nat) : Option (Nat × Bool × Nat) :=
  if s.size ≤ i + 1 then none
  else if bt s (i + 1) = 110 then some (spanN 10 10, true, i + 2)
  else if bt s (i + 1) = 116 then some (spanN 9 9, true, i + 2)
  else if bt s (i + 1) = 114 then some (spanN 13 13, true, i + 2)
  else if bt s (i + 1) = 100 then some (spanN 48 57, false, i + 2)
  else if bt s (i + 1) = 119 then some (wordN, false, i + 2)
  else if bt s (i + 1) = 115 then some (spaceN, false, i + 2)
  else if bt s (i + 1) = 120 then
    if s.size - (i + 1) < 3 ∨ hexF (bt s (i + 2)) < 0 ∨ hexF (bt s (i + 3)) < 0 then none
    else some (spanN (16 * (hexF (bt s (i + 2))).toNat + (hexF (bt s (i + 3))).toNat) (16 * (hexF (bt s (i + 2))).toNat + (hexF (bt s (i + 3))).toNat), true, i + 4)
  else if isIn escL (bt s (i + 1)) then some (spanN (bt s (i + 1)) (bt s (i + 1)), true, i + 2)
  else none
/-- a byte or an escape within a class -/
def innF (s : ByteArray) (i : Nat) : Option (Nat × Bool × Nat) :=
  if s.size ≤ i ∨ bt s i < 32 ∨ 126 < bt s i ∨ isIn innL (bt s i) = true then none
  else if bt s i = 92 then escF s i
  else some (spanN (bt s i) (bt s i), true, i + 1)
/-- the items of a class, up to its end: the set so far; is it the first item? -/
inductive ClsL (s : ByteArray) : Nat → Bool → Nat → Option (Nat × Nat) → Prop
  | eof {i f all} (h : s.size ≤ i) : ClsL s i f all none
  | empty {i all} (h : i < s.size) (hb : bt s i = 93) : ClsL s i true all none
  | done {i all} (h : i < s.size) (hb : bt s i = 93) : ClsL s i false all (some (all, i))
  | bad {i f all} (h : i < s.size) (hb : bt s i ≠ 93) (hi : innF s i = none) : ClsL s i f all none
  | one {i f all N o j r} (h : i < s.size) (hb : bt s i ≠ 93) (hi : innF s i = some (N, o, j)) (hd : ¬ (j < s.size ∧ bt s j = 45)) (hr : ClsL s j false (all ||| N) r) : ClsL s i f all r
  | badEnd {i f all N o j} (h : i < s.size) (hb : bt s i ≠ 93) (hi : innF s i = some (N, o, j)) (hd : j < s.size ∧ bt s j = 45) (he : innF s (j + 1) = none) : ClsL s i f all none
  | badSpan {i f all N o j M o2 k} (h : i < s.size) (hb : bt s i ≠ 93) (hi : innF s i = some (N, o, j)) (hd : j < s.size ∧ bt s j = 45) (he : innF s (j + 1) = some (M, o2, k)) (hn : ¬ (o = true ∧ o2 = true ∧ leastN N ≤ leastN M)) : ClsL s i f all none
  | span {i f all N o j M o2 k r} (h : i < s.size) (hb : bt s i ≠ 93) (hi : innF s i = some (N, o, j)) (hd : j < s.size ∧ bt s j = 45) (he : innF s (j + 1) = some (M, o2, k)) (hn : o = true ∧ o2 = true ∧ leastN N ≤ leastN M) (hr : ClsL s k false (all ||| spanN (leastN N) (leastN M)) r) : ClsL s i f all r
/-- the complement -/
def compN (N : Nat) : Nat := fullN ^^^ N
/-- a class, from behind its bracket on -/
def caret (s : ByteArray) (i : Nat) : Bool := decide (i < s.size ∧ bt s i = 94)
inductive Cls (s : ByteArray) (i : Nat) : Option (Nat × Nat) → Prop
  | bad (h : ClsL s (if caret s i then i + 1 else i) true 0 none) : Cls s i none
  | empty {all e} (h : ClsL s (if caret s i then i + 1 else i) true 0 (some (all, e))) (h0 : (if caret s i then compN all else all) = 0) : Cls s i none
  | ok {all e} (h : ClsL s (if caret s i then i + 1 else i) true 0 (some (all, e))) (h0 : (if caret s i then compN all else all) ≠ 0) : Cls s i (some (if caret s i then compN all else all, e + 1))
/-- what is to be read -/
inductive Ph where
  | ex (i : Nat)
  | exL (i : Nat) (acc : Rx)
  | brL (i : Nat) (acc : Rx)
  | atom (i : Nat)
  | suf (i : Nat) (x : Rx)
/-- what was read -/
inductive Res where
  | ok (t : Rx) (i : Nat)
  | bad (pl : Nat)
/-- a byte that begins no atom -/
def odd (b : Nat) : Bool := decide (b < 32 ∨ 126 < b ∨ b = 93 ∨ b = 42 ∨ b = 43 ∨ b = 63)
inductive Gr (s : ByteArray) : Ph → Res → Prop
  | exBad {i pl} (h : Gr s (.brL i .eps) (.bad pl)) : Gr s (.ex i) (.bad pl)
  | exOk {i t j r} (h : Gr s (.brL i .eps) (.ok t j)) (h2 : Gr s (.exL j (.alt .no t)) r) : Gr s (.ex i) r
  | exEnd {i acc} (h : ¬ (i < s.size ∧ bt s i = 124)) : Gr s (.exL i acc) (.ok acc i)
  | exMoreBad {i acc pl} (h : i < s.size ∧ bt s i = 124) (h2 : Gr s (.brL (i + 1) .eps) (.bad pl)) : Gr s (.exL i acc) (.bad pl)
  | exMore {i acc t j r} (h : i < s.size ∧ bt s i = 124) (h2 : Gr s (.brL (i + 1) .eps) (.ok t j)) (h3 : Gr s (.exL j (.alt acc t)) r) : Gr s (.exL i acc) r
  | brEnd {i acc} (h : s.size ≤ i ∨ bt s i = 124 ∨ bt s i = 41) : Gr s (.brL i acc) (.ok acc i)
  | brBad {i acc pl} (h : i < s.size) (h1 : bt s i ≠ 124) (h2 : bt s i ≠ 41) (h3 : Gr s (.atom i) (.bad pl)) : Gr s (.brL i acc) (.bad pl)
  | brMore {i acc x j y k r} (h : i < s.size) (h1 : bt s i ≠ 124) (h2 : bt s i ≠ 41) (h3 : Gr s (.atom i) (.ok x j)) (h4 : Gr s (.suf j x) (.ok y k)) (h5 : Gr s (.brL k (.seq acc y)) r) : Gr s (.brL i acc) r
  | sufEnd {i x} (h : ¬ (i < s.size ∧ isIn sufL (bt s i) = true)) : Gr s (.suf i x) (.ok x i)
  | sufMore {i x r} (h : i < s.size ∧ isIn sufL (bt s i) = true) (h2 : Gr s (.suf (i + 1) (.loop x (bt s i != 43) (bt s i != 63))) r) : Gr s (.suf i x) r
  | atOdd {i} (h : odd (bt s i) = true) : Gr s (.atom i) (.bad i)
  | atParBad {i pl} (h : bt s i = 40) (h2 : Gr s (.ex (i + 1)) (.bad pl)) : Gr s (.atom i) (.bad pl)
  | atParEnd {i t j} (h : bt s i = 40) (h2 : Gr s (.ex (i + 1)) (.ok t j)) (hj : s.size ≤ j) : Gr s (.atom i) (.bad s.size)
  | atPar {i t j} (h : bt s i = 40) (h2 : Gr s (.ex (i + 1)) (.ok t j)) (hj : j < s.size) : Gr s (.atom i) (.ok t (j + 1))
  | atClsBad {i} (h : bt s i = 91) (h2 : Cls s (i + 1) none) : Gr s (.atom i) (.bad i)
  | atCls {i N j} (h : bt s i = 91) (h2 : Cls s (i + 1) (some (N, j))) : Gr s (.atom i) (.ok (.leaf N) j)
  | atEscBad {i} (h : bt s i = 92) (h2 : escF s i = none) : Gr s (.atom i) (.bad i)
  | atEsc {i N o j} (h : bt s i = 92) (h2 : escF s i = some (N, o, j)) : Gr s (.atom i) (.ok (.leaf N) j)
  | atDot {i} (h : bt s i = 46) : Gr s (.atom i) (.ok (.leaf fullN) (i + 1))
  | atByte {i} (h : odd (bt s i) = false) (h1 : bt s i ≠ 40) (h2 : bt s i ≠ 91) (h3 : bt s i ≠ 92) (h4 : bt s i ≠ 46) : Gr s (.atom i) (.ok (.leaf (spanN (bt s i) (bt s i))) (i + 1))
end Go.Proofs.YtlocogccjlecjaaDoor
