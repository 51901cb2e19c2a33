/- What a text is cut into, as plain functions on lists of bytes; no program in sight. -/
import Derived.Test.YtpchljiiappmnaaBase
namespace Go.Proofs.Ytpchljiiappmnaa
open Go Go.RowKit

abbrev Bs := List UInt8
def bs (l : Bs) : S := ⟨l.toArray⟩

def cBlank (c : UInt8) : Bool := c.toNat == 32 || c.toNat == 9 || c.toNat == 10 || c.toNat == 13
def cDigit (c : UInt8) : Bool := decide (48 ≤ c.toNat) && decide (c.toNat ≤ 57)
def cFirst (c : UInt8) : Bool := (decide (65 ≤ c.toNat) && decide (c.toNat ≤ 90)) || (decide (97 ≤ c.toNat) && decide (c.toNat ≤ 122)) || c.toNat == 95
def cName (c : UInt8) : Bool := cFirst c || cDigit c || c.toNat == 46 || c.toNat == 45 || c.toNat == 58
def cText (c : UInt8) : Bool := decide (32 ≤ c.toNat) || cBlank c
def cLower (c : UInt8) : Bool := decide (97 ≤ c.toNat) && decide (c.toNat ≤ 122)

def span (p : UInt8 → Bool) : Bs → Nat
  | [] => 0
  | c :: l => if p c then span p l + 1 else 0
def nameLen : Bs → Nat
  | [] => 0
  | c :: l => if cFirst c then span cName (c :: l) else 0

/-! References. -/
inductive RefR where
  | ok (t : Bs) (n : Nat)
  | bad (e : Int)

/-- The value of a digit to the base 16 (hex) or 10; -1: it is none. -/
def digitV (c : UInt8) (hex : Bool) : Int :=
  if cDigit c then c.toNat - 48 else if hex && decide (97 ≤ c.toNat) && decide (c.toNat ≤ 102) then c.toNat - 87 else if hex && decide (65 ≤ c.toNat) && decide (c.toNat ≤ 70) then c.toNat - 55 else -1
def isDig (hex : Bool) (c : UInt8) : Bool := decide (0 ≤ digitV c hex)
def baseOf (hex : Bool) : Int := if hex then 16 else 10
def numV (hex : Bool) (l : Bs) : Int := l.foldl (fun k c => k * baseOf hex + digitV c hex) 0

def okLetter (n : Int) : Bool := decide (n = 9 ∨ n = 10 ∨ n = 13 ∨ (32 ≤ n ∧ n ≤ 1114111 ∧ ¬ (55296 ≤ n ∧ n ≤ 57343)))
def letterN (c : Nat) : Bs :=
  if c < 128 then [UInt8.ofNat c]
  else if c < 2048 then [UInt8.ofNat (192 + c / 64), UInt8.ofNat (128 + c % 64)]
  else if c < 65536 then [UInt8.ofNat (224 + c / 4096), UInt8.ofNat (128 + c / 64 % 64), UInt8.ofNat (128 + c % 64)]
  else [UInt8.ofNat (240 + c / 262144), UInt8.ofNat (128 + c / 4096 % 64), UInt8.ofNat (128 + c / 64 % 64), UInt8.ofNat (128 + c % 64)]
def letterB (n : Int) : Bs := letterN n.toNat

/-- A reference by a number: s stands behind the & and # (and x), ahead bytes. -/
def numRef (hex : Bool) (ahead : Nat) (s : Bs) : RefR :=
  if 8 < span (isDig hex) s then .bad 12
  else if span (isDig hex) s = s.length then .bad 13
  else if span (isDig hex) s = 0 ∨ s[span (isDig hex) s]? ≠ some 59 then .bad 12
  else if okLetter (numV hex (s.take (span (isDig hex) s))) then .ok (letterB (numV hex (s.take (span (isDig hex) s)))) (ahead + span (isDig hex) s + 1)
  else .bad 12

def wLt : Bs := [108, 116]
def wGt : Bs := [103, 116]
def wAmp : Bs := [97, 109, 112]
def wQuot : Bs := [113, 117, 111, 116]
def wApos : Bs := [97, 112, 111, 115]
def named (w : Bs) : Option UInt8 :=
  if w = wLt then some 60 else if w = wGt then some 62 else if w = wAmp then some 38 else if w = wQuot then some 34 else if w = wApos then some 39 else none

def refSpec : Bs → RefR
  | [] => .bad 13
  | c :: r => if c ≠ 38 then .bad 12 else match r with
    | 35 :: r' => (match r' with
      | 120 :: r'' => numRef true 3 r''
      | _ => numRef false 2 r')
    | _ =>
      if span cLower r = r.length then
        if r.isPrefixOf wLt || r.isPrefixOf wGt || r.isPrefixOf wAmp || r.isPrefixOf wQuot || r.isPrefixOf wApos then .bad 13 else .bad 12
      else match named (r.take (span cLower r)) with
        | some t => if r[span cLower r]? = some 59 then .ok [t] (span cLower r + 2) else .bad 12
        | none => .bad 12

/-! The reader. A result: a value and what is left; an error and where it is (what stands from there on). -/
inductive Res (α : Type) where
  | ok (a : α) (r : Bs)
  | bad (e : Int) (r : Bs)

def Res.map {α β : Type} (f : α → β) : Res α → Res β
  | .ok a r => .ok (f a) r
  | .bad e r => .bad e r
def Res.bind {α β : Type} (f : α → Bs → Res β) : Res α → Res β
  | .ok a r => f a r
  | .bad e r => .bad e r

def blanks : Bs → Bs
  | [] => []
  | c :: l => if cBlank c then blanks l else c :: l
def wantC (c : UInt8) : Bs → Res Unit
  | [] => .bad 13 []
  | x :: l => if x = c then .ok () l else .bad 10 (x :: l)
def nameR (e : Int) : Bs → Res Bs
  | [] => .bad 13 []
  | c :: l => if nameLen (c :: l) = 0 then .bad e (c :: l) else .ok ((c :: l).take (nameLen (c :: l))) ((c :: l).drop (nameLen (c :: l)))
/-- What stands up to an end, which is gone past, byte by byte. -/
def plain (til : Bs) : Bs → Res Bs
  | [] => if til.isPrefixOf [] then .ok [] (([] : Bs).drop til.length) else .bad 13 []
  | c :: l => if til.isPrefixOf (c :: l) then .ok [] ((c :: l).drop til.length) else if cText c then (plain til l).map (c :: ·) else .bad 10 (c :: l)
/-- Letters and references up to a byte or the end; skip: so many bytes are a reference's. -/
def lettersGo (stop : UInt8) : Nat → Bs → Res Bs
  | _, [] => .ok [] []
  | k + 1, _ :: l => lettersGo stop k l
  | 0, c :: l =>
    if c = stop then .ok [] (c :: l)
    else if c = 38 then match refSpec (c :: l) with
      | .ok t n => (lettersGo stop (n - 1) l).map (t ++ ·)
      | .bad e => .bad e (c :: l)
    else if c = 60 ∨ cText c = false then .bad 10 (c :: l)
    else (lettersGo stop 0 l).map (c :: ·)
def letters (stop : UInt8) (l : Bs) : Res Bs := lettersGo stop 0 l
def valueR : Bs → Res Bs
  | [] => .bad 13 []
  | q :: l => if q = 34 ∨ q = 39 then (letters q l).bind fun s r => match r with
      | [] => .bad 13 []
      | _ :: r' => .ok s r'
    else .bad 10 (q :: l)
abbrev At2 := Bs × Bs
/-- One attribute, no blanks ahead of it. -/
def attrR (acc : List At2) (l : Bs) : Res At2 :=
  (nameR 10 l).bind fun nm r => if acc.any (fun a => a.1 == nm) then .bad 15 l else
    (wantC 61 (blanks r)).bind fun _ r' => (valueR (blanks r')).map fun v => (nm, v)
/-- Do a tag's attributes end here? -/
def tagEnds (l : Bs) : Bool := decide ((blanks l).length = l.length) || (blanks l).isEmpty || (blanks l).head? == some 47 || (blanks l).head? == some 62
def attrsGo : Nat → List At2 → Bs → Res (List At2)
  | 0, _, l => .bad 13 l
  | f + 1, acc, l => if tagEnds l then .ok acc (blanks l) else match attrR acc (blanks l) with
    | .ok a r => attrsGo f (acc ++ [a]) r
    | .bad e r => .bad e r
def attrsR (l : Bs) : Res (List At2) := attrsGo (l.length + 1) [] l

structure Tk where
  kind : Int
  name : Bs
  attrs : List At2
  text : Bs
  deriving DecidableEq
def sNote : Bs := [60, 33, 45, 45]
def eNote : Bs := [45, 45, 62]
def sData : Bs := [60, 33, 91, 67, 68, 65, 84, 65, 91]
def eData : Bs := [93, 93, 62]
def sHead : Bs := [60, 63, 120, 109, 108]
def eHead : Bs := [63, 62]
def isHead (l : Bs) : Bool := sHead.isPrefixOf l && match l[5]? with
  | none => false
  | some c => cBlank c || c == 63
def closeR (l : Bs) : Res Tk := (nameR 11 l).bind fun nm r => (wantC 62 (blanks r)).map fun _ => ⟨3, nm, [], []⟩
def openR (l : Bs) : Res Tk := (nameR 11 l).bind fun nm r => (attrsR r).bind fun as r' => match r' with
  | 47 :: r'' => (wantC 62 r'').map fun _ => ⟨2, nm, as, []⟩
  | _ => (wantC 62 r').map fun _ => ⟨1, nm, as, []⟩
def tokenR (first : Bool) (l : Bs) : Res Tk :=
  if sNote.isPrefixOf l then (plain eNote (l.drop 4)).map fun t => ⟨5, [], [], t⟩
  else if sData.isPrefixOf l then (plain eData (l.drop 9)).map fun t => ⟨4, [], [], t⟩
  else if first && isHead l then (plain eHead (l.drop 5)).map fun t => ⟨6, [], [], t⟩
  else match l with
    | 60 :: 47 :: l' => closeR l'
    | 60 :: l' => openR l'
    | _ => (letters 60 l).map fun t => ⟨4, [], [], t⟩
/-- The tokens, each with what stands from its beginning on. -/
def allGo : Nat → Bool → List (Tk × Bs) → Bs → Res (List (Tk × Bs))
  | _, _, acc, [] => .ok acc []
  | 0, _, _, l => .bad 13 l
  | f + 1, first, acc, l => match tokenR first l with
    | .ok t r => allGo f false (acc ++ [(t, l)]) r
    | .bad e r => .bad e r
def allR (l : Bs) : Res (List (Tk × Bs)) := allGo l.length true [] l

/-- Line and column behind a text. -/
def lineCol (l : Bs) : Nat × Nat := l.foldl (fun p c => if c = 10 then (p.1 + 1, 1) else (p.1, p.2 + 1)) (1, 1)
/-- How many bytes are ahead of what is left. -/
def off (T : Bs) (r : Bs) : Nat := T.length - r.length

end Go.Proofs.Ytpchljiiappmnaa
