/-
  PLAIN LAWS: what the lines of a here-document are, and where they end.
-/
import Derived.Test.YtfkdeknblbmibaaGreatDoorA21
namespace Go.Proofs.YtfkdeknblbmibaaGreatDoor
open Go.RowKit

/-! ### The lines of a here-document -/

/-- Where the line that ends it begins, and what is behind it. -/
def bodyS (s e : ByteArray) : Nat → Nat → Option (Nat × Nat)
  | 0, _ => none
  | k + 1, a =>
    if s.size ≤ a then none
    else
      let n := Lib.indexByte (s.data.toList.drop a) 10
      let m := if n < 0 then s.size - a else n.toNat
      if s.extract a (a + m) = e then some (a, min (a + m + 1) s.size) else bodyS s e k (min (a + m + 1) s.size)

/-- Lines, one behind the other. -/
def linesS : List (List UInt8) → List UInt8
  | [] => []
  | w :: l => w ++ 10 :: linesS l

theorem extract_mid {s : ByteArray} {pre w post : List UInt8} (h : s.data.toList = pre ++ (w ++ post)) : s.extract pre.length (pre.length + w.length) = ⟨w.toArray⟩ := by
  apply data_ext
  rw [ByteArray.data_extract, Array.toList_extract, List.extract_eq_take_drop, h]
  simp

theorem body_line {s e : ByteArray} {w pre post : List UInt8} (k : Nat) (h : s.data.toList = pre ++ (w ++ 10 :: post)) (hw : ¬ (10 : UInt8) ∈ w) :
    bodyS s e (k + 1) pre.length = if w = e.data.toList then some (pre.length, pre.length + w.length + 1) else bodyS s e k (pre.length + w.length + 1) := by
  have hsz : s.size = pre.length + w.length + 1 + post.length := by
    have := congrArg List.length h
    simp at this
    omega
  have hd : s.data.toList.drop pre.length = w ++ 10 :: post := by rw [h]; simp
  have hx := extract_mid (s := s) (w := w) h
  rw [bodyS, if_neg (by omega), hd, ixb_app _ hw]
  simp only
  rw [if_neg (show ¬ ((w.length : Int) < 0) by omega), Int.toNat_natCast, hx, show min (pre.length + w.length + 1) s.size = pre.length + w.length + 1 by omega]
  by_cases he : w = e.data.toList
  · rw [if_pos he, if_pos (by rw [he])]
  · rw [if_neg he, if_neg (fun h => he (by rw [← h]))]

theorem body_lines {s e : ByteArray} {post : List UInt8} : ∀ (l : List (List UInt8)) (pre : List UInt8) (k : Nat), s.data.toList = pre ++ (linesS l ++ post) → (∀ w ∈ l, ¬ (10 : UInt8) ∈ w ∧ w ≠ e.data.toList) →
    bodyS s e (k + l.length) pre.length = bodyS s e k (pre ++ linesS l).length
  | [], pre, k, _, _ => by simp [linesS]
  | w :: l, pre, k, h, hl => by
    have hw := hl w (by simp)
    have h1 := body_line (s := s) (e := e) (w := w) (pre := pre) (post := linesS l ++ post) (k + l.length) (by rw [h]; simp [linesS]) hw.1
    rw [if_neg hw.2] at h1
    have h2 := body_lines (s := s) (e := e) (post := post) l (pre ++ w ++ [10]) k (by rw [h]; simp [linesS]) (fun v hv => hl v (by simp [hv]))
    rw [List.length_cons, ← Nat.add_assoc, h1]
    simp only [List.length_append, List.length_singleton] at h2
    rw [h2, show pre.length + w.length + 1 + (linesS l).length = (pre ++ linesS (w :: l)).length by simp [linesS]; omega]

theorem linesS_length (l : List (List UInt8)) : l.length ≤ (linesS l).length := by
  induction l with
  | nil => simp
  | cons w l ih => simp only [linesS, List.length_append, List.length_cons]; omega

/-- The law, of a text in which the line that ends it stands. -/
theorem body_law_ok (s e : ByteArray) (l : List (List UInt8)) (rest : List UInt8) (h : s.data.toList = linesS l ++ (e.data.toList ++ 10 :: rest)) (hl : ∀ w ∈ l, ¬ (10 : UInt8) ∈ w ∧ w ≠ e.data.toList) (he : ¬ (10 : UInt8) ∈ e.data.toList) :
    bodyS s e (s.size + 1) 0 = some ((linesS l).length, (linesS l).length + e.size + 1) := by
  have hsz : s.size = (linesS l).length + e.size + 1 + rest.length := by
    have := congrArg List.length h
    simp at this
    omega
  have hll := linesS_length l
  have h1 := body_lines (s := s) (e := e) (post := e.data.toList ++ 10 :: rest) l [] (s.size - l.length + 1) (by simpa using h) hl
  rw [show s.size - l.length + 1 + l.length = s.size + 1 by omega] at h1
  simp only [List.length_nil, List.nil_append] at h1
  rw [h1, body_line (post := rest) _ h he, if_pos rfl]
  simp

/-- The law, of a text in which no line ends it. -/
theorem body_law_none (s e : ByteArray) (l : List (List UInt8)) (h : s.data.toList = linesS l) (hl : ∀ w ∈ l, ¬ (10 : UInt8) ∈ w ∧ w ≠ e.data.toList) :
    bodyS s e (s.size + 1) 0 = none := by
  have hsz : s.size = (linesS l).length := by rw [← h]; simp
  have hll := linesS_length l
  have h1 := body_lines (s := s) (e := e) (post := []) l [] (s.size - l.length + 1) (by simpa using h) hl
  rw [show s.size - l.length + 1 + l.length = s.size + 1 by omega] at h1
  simp only [List.length_nil, List.nil_append] at h1
  rw [h1, bodyS, if_pos (by omega)]

end Go.Proofs.YtfkdeknblbmibaaGreatDoor
