import Derived.Lib.DecodeN
import Derived.Lib.RuneBytes
import Derived.Test.YtgnobnbbjekgnaaDoorJv
/- Plain Lean: what the program's JSON parser answers, as functions on lists of bytes. -/
namespace Go.Proofs.YtgnobnbbjekgnaaDoor
namespace Js

/-- The byte at a place; 0 behind the end. -/
def hd (l : List UInt8) (i : Nat) : Nat := (l.getD i 0).toNat
def isBlank (c : UInt8) : Bool := c == 32 || c == 9 || c == 10 || c == 13
def isDigit (c : UInt8) : Bool := 48 ≤ c && c ≤ 57
/-- Behind the blanks. -/
def blanks (l : List UInt8) (i : Nat) : Nat := i + ((l.drop i).takeWhile isBlank).length
/-- Behind the digits. -/
def digitsEnd (l : List UInt8) (i : Nat) : Nat := i + ((l.drop i).takeWhile isDigit).length

/-- Something and the place behind it; or a place and an error's number. -/
abbrev R (α : Type) := Except (Nat × Int) (α × Nat)

def word (l : List UInt8) : List Nat → Nat → Except (Nat × Int) Nat
  | [], i => .ok i
  | c :: w, i => if hd l i = c then word l w (i + 1) else .error (i, 30)
def digits (l : List UInt8) (i : Nat) : Except (Nat × Int) Nat :=
  if 48 ≤ hd l i ∧ hd l i ≤ 57 then .ok (digitsEnd l i) else .error (i, 30)
def numMinus (l : List UInt8) (i : Nat) : Nat := if hd l i = 45 then i + 1 else i
def numWhole (l : List UInt8) (i : Nat) : Except (Nat × Int) Nat := if hd l i = 48 then .ok (i + 1) else digits l i
def numFrac (l : List UInt8) (i : Nat) : Except (Nat × Int) Nat := if hd l i = 46 then digits l (i + 1) else .ok i
def numExp (l : List UInt8) (i : Nat) : Except (Nat × Int) Nat :=
  if hd l i = 101 ∨ hd l i = 69 then digits l (if hd l (i + 1) = 43 ∨ hd l (i + 1) = 45 then i + 2 else i + 1) else .ok i
def number (l : List UInt8) (i : Nat) : Except (Nat × Int) Nat :=
  match numWhole l (numMinus l i) with
  | .error e => .error e
  | .ok j => match numFrac l j with
    | .error e => .error e
    | .ok k => numExp l k

/-- A hexadecimal digit's number. -/
def hex (c : Nat) : Option Nat :=
  if 48 ≤ c ∧ c ≤ 57 then some (c - 48) else if 97 ≤ c ∧ c ≤ 102 then some (c - 87) else if 65 ≤ c ∧ c ≤ 70 then some (c - 55) else none
/-- So many hexadecimal digits. -/
def hexes (l : List UInt8) : Nat → Nat → Nat → R Nat
  | 0, n, i => .ok (n, i)
  | k + 1, n, i => match hex (hd l i) with
    | none => .error (i, 30)
    | some d => hexes l k (n * 16 + d) (i + 1)
/-- A u and four digits. -/
def unit (l : List UInt8) (i : Nat) : R Nat := if hd l i = 117 then hexes l 4 0 (i + 1) else .error (i, 30)
def joined (h w : Nat) : Nat := if h < 55296 ∨ 56320 ≤ h ∨ w < 56320 ∨ 57344 ≤ w then 65533 else 65536 + (h - 55296) * 1024 + w - 56320
/-- Stands a low surrogate behind a high one? -/
def pair (l : List UInt8) (i : Nat) (high : Nat) : Bool :=
  if l.length < i + 6 then false
  else if hd l i = 92 ∧ hd l (i + 1) = 117 then
    match hexes l 4 0 (i + 2) with
    | .error _ => false
    | .ok (n, _) => joined high n != 65533
  else false
def esc1 (c : Nat) : Option Nat :=
  if c = 34 then some 34 else if c = 92 then some 92 else if c = 47 then some 47 else if c = 98 then some 8
  else if c = 102 then some 12 else if c = 110 then some 10 else if c = 114 then some 13 else if c = 116 then some 9 else none
/-- What stands behind a backslash: a rune. -/
def escape (l : List UInt8) (i : Nat) : R Nat :=
  match esc1 (hd l i) with
  | some c => .ok (c, i + 1)
  | none => match unit l i with
    | .error e => .error e
    | .ok (u, j) =>
      if 55296 ≤ u ∧ u < 57344 then
        if pair l j u then
          match unit l (j + 1) with
          | .error e => .error e
          | .ok (w, k) => .ok (joined u w, k)
        else .ok (65533, j)
      else .ok (u, j)
/-- The rune at a place, and its bytes. -/
def dec (l : List UInt8) (i : Nat) : Nat × Nat := Lib.decodeN (l.length - i) (hd l i) (hd l (i + 1)) (hd l (i + 2)) (hd l (i + 3))
/-- Is there a whole character? -/
def whole (l : List UInt8) (i : Nat) : Bool := decide (i < l.length) && !(decide (dec l i = (65533, 1)))
/-- A string's inside, and the place behind its end. -/
def text (l : List UInt8) : Nat → Nat → List UInt8 → R (List UInt8)
  | 0, i, _ => .error (i, 99)
  | n + 1, i, out =>
    if hd l i = 34 then .ok (out, i + 1)
    else if hd l i < 32 then .error (i, 30)
    else if hd l i = 92 then
      match escape l (i + 1) with
      | .error e => .error e
      | .ok (u, j) => text l n j (out ++ Lib.encodeRune u)
    else if whole l i then text l n (i + (dec l i).2) (out ++ (l.drop i).take (dec l i).2)
    else .error (i, 30)
def str (l : List UInt8) (i : Nat) : R (List UInt8) := text l (l.length + 1) (i + 1) []

/-- A comma, but ahead of the first. -/
def comma (l : List UInt8) (first : Bool) (i : Nat) : Except (Nat × Int) Nat :=
  if first then .ok i else match word l [44] i with
    | .error e => .error e
    | .ok j => .ok (blanks l j)
/-- A list's elements, from its first blank-free place on. -/
def listL (l : List UInt8) (val : Nat → R JV) : Nat → Nat → List JV → R (List JV)
  | 0, i, _ => .error (i, 99)
  | n + 1, i, acc =>
    if hd l i = 93 then .ok (acc, i + 1)
    else match comma l acc.isEmpty i with
      | .error e => .error e
      | .ok j => match val j with
        | .error e => .error e
        | .ok (v, k) => listL l val n (blanks l k) (acc ++ [v])
/-- A field, in the place of one of its name. -/
def put (n : ByteArray) (v : JV) : List (ByteArray × JV) → List (ByteArray × JV)
  | [] => [(n, v)]
  | (m, x) :: r => if m = n then (n, v) :: r else (m, x) :: put n v r
/-- One field: its name, its value. -/
def field (l : List UInt8) (val : Nat → R JV) (i : Nat) : R (ByteArray × JV) :=
  if hd l i = 34 then
    match str l i with
    | .error e => .error e
    | .ok (n, j) => match word l [58] (blanks l j) with
      | .error e => .error e
      | .ok k => match val (blanks l k) with
        | .error e => .error e
        | .ok (v, m) => .ok ((⟨n.toArray⟩, v), m)
  else .error (i, 30)
def objL (l : List UInt8) (val : Nat → R JV) : Nat → Bool → Nat → List (ByteArray × JV) → R (List (ByteArray × JV))
  | 0, _, i, _ => .error (i, 99)
  | n + 1, first, i, acc =>
    if hd l i = 125 then .ok (acc, i + 1)
    else match comma l first i with
      | .error e => .error e
      | .ok j => match field l val j with
        | .error e => .error e
        | .ok ((nm, v), k) => objL l val n false (blanks l k) (put nm v acc)
def wordV (l : List UInt8) (w : List Nat) (i : Nat) (v : JV) : R JV :=
  match word l w i with
  | .error e => .error e
  | .ok j => .ok (v, j)
/-- A value, so many levels still being allowed. -/
def value (l : List UInt8) : Nat → Nat → R JV
  | d, i =>
    if hd l i = 110 then wordV l [110, 117, 108, 108] i (.mk 0 ⟨#[]⟩ [] [])
    else if hd l i = 116 then wordV l [116, 114, 117, 101] i (.mk 2 ⟨#[]⟩ [] [])
    else if hd l i = 102 then wordV l [102, 97, 108, 115, 101] i (.mk 1 ⟨#[]⟩ [] [])
    else if hd l i = 34 then
      match str l i with
      | .error e => .error e
      | .ok (t, j) => .ok (.mk 4 ⟨t.toArray⟩ [] [], j)
    else if hd l i = 91 then
      match d with
      | 0 => .error (i, 31)
      | d + 1 => match listL l (value l d) (l.length + 1) (blanks l (i + 1)) [] with
        | .error e => .error e
        | .ok (xs, j) => .ok (.mk 5 ⟨#[]⟩ xs [], j)
    else if hd l i = 123 then
      match d with
      | 0 => .error (i, 31)
      | d + 1 => match objL l (value l d) (l.length + 1) true (blanks l (i + 1)) [] with
        | .error e => .error e
        | .ok (xs, j) => .ok (.mk 6 ⟨#[]⟩ [] xs, j)
    else match number l i with
      | .error e => .error e
      | .ok j => .ok (.mk 3 ⟨((l.drop i).take (j - i)).toArray⟩ [] [], j)
/-- A text: a value, 0, 0; or the null, a place and an error's number. -/
def parse (l : List UInt8) : JV × Nat × Int :=
  if 262144 < l.length then (JV.null, 0, 3)
  else match value l 64 (blanks l 0) with
    | .error (i, e) => (JV.null, i, e)
    | .ok (v, j) => if blanks l j < l.length then (JV.null, blanks l j, 30) else (v, 0, 0)
end Js
end Go.Proofs.YtgnobnbbjekgnaaDoor
