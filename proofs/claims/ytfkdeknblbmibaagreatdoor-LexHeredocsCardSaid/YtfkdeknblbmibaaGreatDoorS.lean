/-
  THE PLAIN LAW's SIDE: what lex's functions compute, as Lean functions (no memory in sight). 'R.out': not said (the rounds are used up).
-/
import Derived.Test.YtfkdeknblbmibaaGreatDoorA4
namespace Go.Proofs.YtfkdeknblbmibaaGreatDoor

inductive R (α : Type) where
  | ok (v : α) (a : Nat)
  | bad (a er : Int)
  | out

def ixI (set : ByteArray) (c : UInt8) : Int := Lib.indexByte set.data.toList c

/-- A text in ' '. -/
def quotedS (s : ByteArray) (a : Nat) : R Pt :=
  let n := Lib.indexByte (s.data.toList.drop (a + 1)) 39
  if n < 0 then .bad s.size 8
  else
    let t := s.extract (a + 1) (a + 1 + n.toNat)
    if 0 ≤ ixI t 0 then .bad a 33 else .ok { kind := 1, text := t, quoted := true } (a + n.toNat + 2)

/-- "$\"\\`" -/
def escapedB : ByteArray := ⟨#[36, 34, 92, 96]⟩

/-- A backslash within " ": what is put to the octets, and where it goes on. -/
def slashS (s : ByteArray) (a : Nat) : List UInt8 × Nat :=
  let n := oct s (a + 1)
  if n.toNat = 10 then ([], a + 2)
  else if n.toNat ≠ 0 ∧ 0 ≤ ixI escapedB n then ([n], a + 2) else ([92], a + 1)

def mergesB (out : List Pt) (p : Pt) : Bool :=
  match out.getLast? with
  | some q => p.kind == 1 && p.quoted && p.op.data.toList.isEmpty && q.kind == 1 && q.quoted && q.op.data.toList.isEmpty
  | none => false

/-- One part put to the ones ahead. -/
def joinS (out : List Pt) (p : Pt) : List Pt :=
  match out.getLast? with
  | some q => if mergesB out p = true then out.dropLast ++ [{ q with text := q.text ++ p.text }] else out ++ [p]
  | none => [p]
def joinedS (out l : List Pt) : List Pt := l.foldl joinS out

/-- What is under way, put to the parts. -/
def flushS (out : List Pt) (b : List UInt8) : List Pt := if b = [] then out else out ++ [{ kind := 1, text := ⟨b.toArray⟩, quoted := true }]

/-- Parts as within " ", up to one of some octets. -/
def withinS (s : ByteArray) (dol : Nat → R Pt) (ends : ByteArray) : Nat → Nat → List Pt → List UInt8 → R (List Pt)
  | 0, _, _, _ => .out
  | k + 1, a, out, b =>
    if s.size ≤ a then .bad s.size 8
    else if 0 ≤ ixI ends (oct s a) then .ok (flushS out b) a
    else if (oct s a).toNat = 92 then withinS s dol ends k (slashS s a).2 out (b ++ (slashS s a).1)
    else if (oct s a).toNat = 36 then
      match dol a with
      | .ok p a' => if p.kind = 1 then withinS s dol ends k a' out (b ++ p.text.data.toList) else withinS s dol ends k a' (flushS out b ++ [p]) []
      | .bad a' e => .bad a' e
      | .out => .out
    else if (oct s a).toNat = 96 ∨ (oct s a).toNat = 0 then .bad a 33
    else withinS s dol ends k (a + 1) out (b ++ [oct s a])

mutual
/-- The place of the ) that ends what is in parentheses. -/
def closedS (s : ByteArray) : Nat → Nat → Nat → R Unit
  | 0, _, _ => .out
  | k + 1, a, o =>
    if s.size ≤ a then .bad s.size 8
    else if (oct s a).toNat = 40 then closedS s k (a + 1) (o + 1)
    else if (oct s a).toNat = 41 then (if o = 0 then .ok () a else closedS s k (a + 1) (o - 1))
    else if (oct s a).toNat = 92 then closedS s k (a + 2) o
    else if (oct s a).toNat = 39 then
      let n := Lib.indexByte (s.data.toList.drop (a + 1)) 39
      if n < 0 then .bad s.size 8 else closedS s k (a + n.toNat + 2) o
    else if (oct s a).toNat = 34 then
      match doubleS s k (a + 1) with
      | .ok _ a' => closedS s k (a' + 1) o
      | .bad a' e => .bad a' e
      | .out => .out
    else closedS s k (a + 1) o
/-- Where a text in " " ends (from behind its beginning). -/
def doubleS (s : ByteArray) : Nat → Nat → R Unit
  | 0, _ => .out
  | k + 1, a =>
    if s.size ≤ a then .bad s.size 8
    else if (oct s a).toNat = 34 then .ok () a
    else if (oct s a).toNat = 92 then doubleS s k (a + 2)
    else if (oct s a).toNat = 36 ∧ (oct s (a + 1)).toNat = 40 then
      match closedS s k (a + 2) 0 with
      | .ok _ a' => doubleS s k (a' + 1)
      | .bad a' e => .bad a' e
      | .out => .out
    else doubleS s k (a + 1)
end

/-- What is in parentheses, behind their beginning. -/
def rawS (s : ByteArray) (kind : Int) (quoted : Bool) (a : Nat) : R Pt :=
  match closedS s (s.size + 2 - a) a 0 with
  | .ok _ a' => .ok { kind := kind, text := s.extract a a', quoted := quoted, place := a } (a' + 1)
  | .bad a' e => .bad a' e
  | .out => .out

def doubledS (s : ByteArray) (dol : Nat → R Pt) (a : Nat) : R (List Pt) :=
  match withinS s dol ⟨#[34]⟩ (s.size + 1 - a) (a + 1) [] [] with
  | .ok l a' => .ok (if l = [] then [{ kind := 1, text := ⟨#[]⟩, quoted := true }] else l) (a' + 1)
  | .bad a' e => .bad a' e
  | .out => .out

/-- A backslash outside of quotes. -/
def escapeS (s : ByteArray) (a : Nat) (out : List Pt) : R (List Pt) :=
  if s.size ≤ a + 1 then .bad s.size 8
  else if (oct s (a + 1)).toNat = 0 then .bad ((a : Int) + 1) 33
  else if (oct s (a + 1)).toNat = 10 then .ok out (a + 2)
  else .ok (joinS out { kind := 1, text := ⟨#[oct s (a + 1)]⟩, quoted := true }) (a + 2)

/-- Parts of a word. -/
def partsS (s : ByteArray) (bash : Bool) (dolT dolF : Nat → R Pt) (ends stops : ByteArray) : Nat → Nat → List Pt → R (List Pt)
  | 0, _, _ => .out
  | k + 1, a, out =>
    if s.size ≤ a then (if ends.data.toList.isEmpty = true then .ok out a else .bad s.size 8)
    else if 0 ≤ ixI ends (oct s a) ∧ ends.data.toList.isEmpty = false then .ok out a
    else if bash = true ∧ Lib.hasPrefix (s.data.toList.drop a) [60, 40] = true ∧ ends.data.toList.isEmpty = true then
      match rawS s 5 false (a + 2) with
      | .ok p a' => partsS s bash dolT dolF ends stops k a' (out ++ [p])
      | .bad a' e => .bad a' e
      | .out => .out
    else if stops.data.toList.isEmpty = false ∧ 0 ≤ ixI stops (oct s a) then .ok out a
    else if (oct s a).toNat = 39 then
      match quotedS s a with
      | .ok p a' => partsS s bash dolT dolF ends stops k a' (joinS out p)
      | .bad a' e => .bad a' e
      | .out => .out
    else if (oct s a).toNat = 34 then
      match doubledS s dolT a with
      | .ok l a' => partsS s bash dolT dolF ends stops k a' (joinedS out l)
      | .bad a' e => .bad a' e
      | .out => .out
    else if (oct s a).toNat = 92 then
      match escapeS s a out with
      | .ok l a' => partsS s bash dolT dolF ends stops k a' l
      | .bad a' e => .bad a' e
      | .out => .out
    else if (oct s a).toNat = 36 then
      match dolF a with
      | .ok p a' => partsS s bash dolT dolF ends stops k a' (joinS out { p with quoted := p.quoted || p.kind == 1 })
      | .bad a' e => .bad a' e
      | .out => .out
    else if (oct s a).toNat = 96 ∨ (oct s a).toNat = 0 then .bad a 33
    else partsS s bash dolT dolF ends stops k (a + 1) (plainS out (oct s a))

end Go.Proofs.YtfkdeknblbmibaaGreatDoor
