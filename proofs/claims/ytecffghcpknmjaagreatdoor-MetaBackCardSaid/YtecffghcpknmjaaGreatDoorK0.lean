/- What a text is cut into, as plain functions on lists of bytes; no program in sight. -/
import Derived.Test.YtecffghcpknmjaaGreatDoorL0
import Derived.Test.YtecffghcpknmjaaGreatDoorBase

namespace Go.Proofs.YtecffghcpknmjaaGreatDoor
open Go Go.RowKit

def cBlank (c : UInt8) : Bool := c.toNat == 32 || c.toNat == 9 || c.toNat == 10 || c.toNat == 13
def cDigit (c : UInt8) : Bool := decide (48 ≤ c.toNat) && decide (c.toNat ≤ 57)
def cText (c : UInt8) : Bool := decide (32 ≤ c.toNat) || cBlank c
def cLower (c : UInt8) : Bool := decide (97 ≤ c.toNat) && decide (c.toNat ≤ 122)
def span (p : UInt8 → Bool) : Bs → Nat
  | [] => 0
  | c :: l => if p c then span p l + 1 else 0
/-! References. -/
inductive RefR where
  | ok (t : Bs) (n : Nat)
  | bad (e : Int)
/-- The value of a digit to the base 16 (hex) or 10; -1: it is none. -/
def digitV (c : UInt8) (hex : Bool) : Int :=
  if cDigit c then c.toNat - 48 else if hex && decide (97 ≤ c.toNat) && decide (c.toNat ≤ 102) then c.toNat - 87 else if hex && decide (65 ≤ c.toNat) && decide (c.toNat ≤ 70) then c.toNat - 55 else -1
def isDig (hex : Bool) (c : UInt8) : Bool := decide (0 ≤ digitV c hex)
def baseOf (hex : Bool) : Int := if hex then 16 else 10
def numV (hex : Bool) (l : Bs) : Int := l.foldl (fun k c => k * baseOf hex + digitV c hex) 0
def okLetter (n : Int) : Bool := decide (n = 9 ∨ n = 10 ∨ n = 13 ∨ (32 ≤ n ∧ n ≤ 1114111 ∧ ¬ (55296 ≤ n ∧ n ≤ 57343)))
def letterN (c : Nat) : Bs :=
  if c < 128 then [UInt8.ofNat c]
  else if c < 2048 then [UInt8.ofNat (192 + c / 64), UInt8.ofNat (128 + c % 64)]
  else if c < 65536 then [UInt8.ofNat (224 + c / 4096), UInt8.ofNat (128 + c / 64 % 64), UInt8.ofNat (128 + c % 64)]
  else [UInt8.ofNat (240 + c / 262144), UInt8.ofNat (128 + c / 4096 % 64), UInt8.ofNat (128 + c / 64 % 64), UInt8.ofNat (128 + c % 64)]
def letterB (n : Int) : Bs := letterN n.toNat
/-- A reference by a number: s stands behind the & and # (and x), ahead bytes. -/
def numRef (hex : Bool) (ahead : Nat) (s : Bs) : RefR :=
  if 8 < span (isDig hex) s then .bad 12
  else if span (isDig hex) s = s.length then .bad 13
  else if span (isDig hex) s = 0 ∨ s[span (isDig hex) s]? ≠ some 59 then .bad 12
  else if okLetter (numV hex (s.take (span (isDig hex) s))) then .ok (letterB (numV hex (s.take (span (isDig hex) s)))) (ahead + span (isDig hex) s + 1)
  else .bad 12
def wLt : Bs := [108, 116]
def wGt : Bs := [103, 116]
def wAmp : Bs := [97, 109, 112]
def wQuot : Bs := [113, 117, 111, 116]
def wApos : Bs := [97, 112, 111, 115]
def named (w : Bs) : Option UInt8 :=
  if w = wLt then some 60 else if w = wGt then some 62 else if w = wAmp then some 38 else if w = wQuot then some 34 else if w = wApos then some 39 else none
def refSpec : Bs → RefR
  | [] => .bad 13
  | c :: r => if c ≠ 38 then .bad 12 else match r with
    | 35 :: r' => (match r' with
      | 120 :: r'' => numRef true 3 r''
      | _ => numRef false 2 r')
    | _ =>
      if span cLower r = r.length then
        if r.isPrefixOf wLt || r.isPrefixOf wGt || r.isPrefixOf wAmp || r.isPrefixOf wQuot || r.isPrefixOf wApos then .bad 13 else .bad 12
      else match named (r.take (span cLower r)) with
        | some t => if r[span cLower r]? = some 59 then .ok [t] (span cLower r + 2) else .bad 12
        | none => .bad 12
/-! The reader. A result: a value and what is left; an error and where it is (what stands from there on). -/
inductive Res (α : Type) where
  | ok (a : α) (r : Bs)
  | bad (e : Int) (r : Bs)
def Res.map {α β : Type} (f : α → β) : Res α → Res β
  | .ok a r => .ok (f a) r
  | .bad e r => .bad e r
def Res.bind {α β : Type} (f : α → Bs → Res β) : Res α → Res β
  | .ok a r => f a r
  | .bad e r => .bad e r
/-- What stands up to an end, which is gone past, byte by byte. -/
def plain (til : Bs) : Bs → Res Bs
  | [] => if til.isPrefixOf [] then .ok [] (([] : Bs).drop til.length) else .bad 13 []
  | c :: l => if til.isPrefixOf (c :: l) then .ok [] ((c :: l).drop til.length) else if cText c then (plain til l).map (c :: ·) else .bad 10 (c :: l)
/-- Letters and references up to a byte or the end; skip: so many bytes are a reference's. -/
def lettersGo (stop : UInt8) : Nat → Bs → Res Bs
  | _, [] => .ok [] []
  | k + 1, _ :: l => lettersGo stop k l
  | 0, c :: l =>
    if c = stop then .ok [] (c :: l)
    else if c = 38 then match refSpec (c :: l) with
      | .ok t n => (lettersGo stop (n - 1) l).map (t ++ ·)
      | .bad e => .bad e (c :: l)
    else if c = 60 ∨ cText c = false then .bad 10 (c :: l)
    else (lettersGo stop 0 l).map (c :: ·)
def letters (stop : UInt8) (l : Bs) : Res Bs := lettersGo stop 0 l
abbrev At2 := Bs × Bs
/-- How many bytes are ahead of what is left. -/
def off (T : Bs) (r : Bs) : Nat := T.length - r.length

end Go.Proofs.YtecffghcpknmjaaGreatDoor
