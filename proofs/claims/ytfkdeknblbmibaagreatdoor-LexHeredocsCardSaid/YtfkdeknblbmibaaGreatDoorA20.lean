/-
  PLAIN LAW: of a text of pairs of parentheses with a closing one behind, 'closedS' answers that one's place; of the text alone it says that it is short.
-/
import Derived.Test.YtfkdeknblbmibaaGreatDoorA19
namespace Go.Proofs.YtfkdeknblbmibaaGreatDoor
open Go.RowKit

/-- From one place to another, whatever rounds are left. -/
def Goes (s : ByteArray) (a o a' o' : Nat) : Prop := ∃ n, n + a ≤ a' ∧ ∀ k, closedS s (k + n) a o = closedS s k a' o'

theorem Goes.refl (s : ByteArray) (a o : Nat) : Goes s a o a o := ⟨0, by omega, fun _ => rfl⟩
theorem Goes.trans {s : ByteArray} {a o a' o' a'' o'' : Nat} (h : Goes s a o a' o') (g : Goes s a' o' a'' o'') : Goes s a o a'' o'' := by
  obtain ⟨n, hn, h⟩ := h
  obtain ⟨m, hm, g⟩ := g
  refine ⟨m + n, by omega, fun k => ?_⟩
  rw [← Nat.add_assoc, h, g]

/-- An octet that Closed goes past. -/
def closedPlain (c : UInt8) : Bool := c != 40 && c != 41 && c != 39 && c != 34 && c != 92

theorem oct_mid {s : ByteArray} {pre post : List UInt8} {c : UInt8} (h : s.data.toList = pre ++ c :: post) : oct s pre.length = c ∧ pre.length < s.size ∧ s.data.toList.drop (pre.length + 1) = post := by
  have hsz : s.data.toList.length = s.size := by simp
  refine ⟨?_, ?_, ?_⟩
  · unfold oct; rw [h]; simp
  · rw [← hsz, h]; simp
  · rw [h, ← List.drop_drop]; simp

theorem goes_one {s : ByteArray} {pre post : List UInt8} {c : UInt8} (o : Nat) (h : s.data.toList = pre ++ c :: post) (hc : closedPlain c = true) : Goes s pre.length o (pre.length + 1) o := by
  obtain ⟨h1, h2, h3⟩ := oct_mid h
  refine ⟨1, by omega, fun k => ?_⟩
  simp only [closedPlain, Bool.and_eq_true, bne_iff_ne, ne_eq] at hc
  have key : ∀ n : UInt8, ¬ c = n → ¬ c.toNat = n.toNat := fun n hn e => hn (UInt8.toNat_inj.1 e)
  have k1 : ¬ c.toNat = 40 := key 40 hc.1.1.1.1
  have k2 : ¬ c.toNat = 41 := key 41 hc.1.1.1.2
  have k3 : ¬ c.toNat = 92 := key 92 hc.2
  have k4 : ¬ c.toNat = 39 := key 39 hc.1.1.2
  have k5 : ¬ c.toNat = 34 := key 34 hc.1.2
  rw [closedS, h1, if_neg (show ¬ s.size ≤ pre.length by omega), if_neg k1, if_neg k2, if_neg k3, if_neg k4, if_neg k5]

theorem goes_plain {s : ByteArray} (o : Nat) : ∀ (w pre post : List UInt8), s.data.toList = pre ++ w ++ post → (∀ c ∈ w, closedPlain c = true) → Goes s pre.length o (pre.length + w.length) o
  | [], pre, post, _, _ => Goes.refl _ _ _
  | c :: w, pre, post, h, hw => by
    have h1 := goes_one (s := s) (pre := pre) (post := w ++ post) (c := c) o (by rw [h]; simp) (hw c (by simp))
    have h2 := goes_plain o w (pre ++ [c]) post (by rw [h]; simp) (fun d hd => hw d (by simp [hd]))
    rw [List.length_append, List.length_singleton] at h2
    have := h1.trans h2
    rw [List.length_cons, show pre.length + (w.length + 1) = pre.length + 1 + w.length by omega]
    exact this

theorem goes_open {s : ByteArray} {pre post : List UInt8} (o : Nat) (h : s.data.toList = pre ++ 40 :: post) : Goes s pre.length o (pre.length + 1) (o + 1) := by
  obtain ⟨h1, h2, h3⟩ := oct_mid h
  refine ⟨1, by omega, fun k => ?_⟩
  rw [closedS, h1, if_neg (show ¬ s.size ≤ pre.length by omega), if_pos (show UInt8.toNat 40 = 40 from rfl)]

theorem goes_close {s : ByteArray} {pre post : List UInt8} (o : Nat) (h : s.data.toList = pre ++ 41 :: post) : Goes s pre.length (o + 1) (pre.length + 1) o := by
  obtain ⟨h1, h2, h3⟩ := oct_mid h
  refine ⟨1, by omega, fun k => ?_⟩
  rw [closedS, h1, if_neg (show ¬ s.size ≤ pre.length by omega), if_neg (show ¬ UInt8.toNat 41 = 40 by decide), if_pos (show UInt8.toNat 41 = 41 from rfl), if_neg (show ¬ o + 1 = 0 by omega)]
  rfl

/-- '(' in quotes. -/
theorem goes_quoted {s : ByteArray} {pre post : List UInt8} (o : Nat) (h : s.data.toList = pre ++ 39 :: 40 :: 39 :: post) : Goes s pre.length o (pre.length + 3) o := by
  obtain ⟨h1, h2, h3⟩ := oct_mid h
  refine ⟨1, by omega, fun k => ?_⟩
  have e : Lib.indexByte (40 :: 39 :: post) 39 = 1 := by
    simp [Lib.indexByte]
  rw [closedS, h1, if_neg (show ¬ s.size ≤ pre.length by omega), if_neg (show ¬ UInt8.toNat 39 = 40 by decide), if_neg (show ¬ UInt8.toNat 39 = 41 by decide), if_neg (show ¬ UInt8.toNat 39 = 92 by decide), if_pos (show UInt8.toNat 39 = 39 from rfl)]
  simp only [h3, e]
  rfl

/-- One of the law's pieces. -/
def pieceS (w : List UInt8) : List UInt8 := 40 :: (w ++ (41 :: 39 :: 40 :: 39 :: w))
def filterS (w : List UInt8) : List UInt8 := w.filter closedPlain
/-- The law's text. -/
def piecesS : List (List UInt8) → List UInt8
  | [] => []
  | w :: l => pieceS (filterS w) ++ piecesS l

theorem goes_piece {s : ByteArray} (o : Nat) (w pre post : List UInt8) (h : s.data.toList = pre ++ pieceS w ++ post) (hw : ∀ c ∈ w, closedPlain c = true) : Goes s pre.length o (pre.length + (pieceS w).length) o := by
  unfold pieceS at h
  have g1 := goes_open (s := s) (pre := pre) (post := w ++ (41 :: 39 :: 40 :: 39 :: w) ++ post) o (by rw [h]; simp)
  have g2 := goes_plain (s := s) (o + 1) w (pre ++ [40]) ((41 :: 39 :: 40 :: 39 :: w) ++ post) (by rw [h]; simp) hw
  have g3 := goes_close (s := s) (pre := pre ++ [40] ++ w) (post := (39 :: 40 :: 39 :: w) ++ post) o (by rw [h]; simp)
  have g4 := goes_quoted (s := s) (pre := pre ++ [40] ++ w ++ [41]) (post := w ++ post) o (by rw [h]; simp)
  have g5 := goes_plain (s := s) o w (pre ++ [40] ++ w ++ [41, 39, 40, 39]) post (by rw [h]; simp) hw
  simp only [List.length_append, List.length_cons, List.length_nil] at g1 g2 g3 g4 g5
  have := g1.trans (g2.trans (g3.trans (g4.trans g5)))
  rw [show pre.length + (pieceS w).length = pre.length + (0 + 1) + w.length + (0 + 1 + 1 + 1 + 1) + w.length by simp [pieceS]; omega]
  exact this

theorem goes_pieces {s : ByteArray} (o : Nat) : ∀ (l : List (List UInt8)) (pre post : List UInt8), s.data.toList = pre ++ piecesS l ++ post → Goes s pre.length o (pre.length + (piecesS l).length) o
  | [], _, _, _ => Goes.refl _ _ _
  | w :: l, pre, post, h => by
    unfold piecesS at h
    have g1 := goes_piece (s := s) o (filterS w) pre (piecesS l ++ post) (by rw [h]; simp) (fun c hc => (List.mem_filter.1 hc).2)
    have g2 := goes_pieces o l (pre ++ pieceS (filterS w)) post (by rw [h]; simp)
    rw [List.length_append] at g2
    have := g1.trans g2
    rw [show pre.length + (piecesS (w :: l)).length = pre.length + (pieceS (filterS w)).length + (piecesS l).length by simp [piecesS]; omega]
    exact this

/-- The law, of a text with a ) behind. -/
theorem closed_law_ok (s : ByteArray) (l : List (List UInt8)) (rest : List UInt8) (h : s.data.toList = piecesS l ++ 41 :: rest) : closedS s (s.size + 2) 0 0 = .ok () (piecesS l).length := by
  obtain ⟨n, hn, hg⟩ := goes_pieces (s := s) 0 l [] (41 :: rest) (by simpa using h)
  obtain ⟨h1, h2, h3⟩ := oct_mid h
  simp only [List.length_nil, Nat.zero_add] at hn hg
  obtain ⟨k, hk⟩ : ∃ k, s.size + 2 = (k + 1) + n := ⟨s.size + 1 - n, by omega⟩
  rw [hk, hg, closedS, h1, if_neg (show ¬ s.size ≤ (piecesS l).length by omega), if_neg (show ¬ UInt8.toNat 41 = 40 by decide), if_pos (show UInt8.toNat 41 = 41 from rfl), if_pos rfl]

/-- The law, of the text alone. -/
theorem closed_law_bad (s : ByteArray) (l : List (List UInt8)) (h : s.data.toList = piecesS l) : closedS s (s.size + 2) 0 0 = .bad s.size 8 := by
  obtain ⟨n, hn, hg⟩ := goes_pieces (s := s) 0 l [] [] (by simpa using h)
  have hsz : (piecesS l).length = s.size := by rw [← h]; simp
  simp only [List.length_nil, Nat.zero_add] at hn hg
  obtain ⟨k, hk⟩ : ∃ k, s.size + 2 = (k + 1) + n := ⟨s.size + 1 - n, by omega⟩
  rw [hk, hg, closedS, if_pos (show s.size ≤ (piecesS l).length by omega)]

end Go.Proofs.YtfkdeknblbmibaaGreatDoor
