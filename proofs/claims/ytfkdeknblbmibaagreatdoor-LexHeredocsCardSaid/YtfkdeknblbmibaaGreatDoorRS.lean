/-
  FOR THE ROWS OF THIS SEAT: a slice of texts among the arguments, opened.
-/
import Derived.Test.YtfkdeknblbmibaaGreatDoorRK
import Derived.Test.YtfkdeknblbmibaaGreatDoorA23
namespace Go.Proofs.YtfkdeknblbmibaaGreatDoor
open Go.ChangeShapes Go.WideShapes Go.ChangeAt Go.WideMaps Go.WideElems Go.RowKit

theorem Tryz.cellsString : Tryz.prog.cellsOf 9 = 1 := by kernel_rfl
theorem Tryz.bytesString : Tryz.prog.bytesOf 9 = 16 := by kernel_rfl

theorem cell_in {w : World} {a : Addr} {v : Value} (h : w.cell? a = some v) : a.block < w.heap.size := by
  rcases Nat.lt_or_ge a.block w.heap.size with h' | h'
  · exact h'
  · rw [World.cell?, Array.getElem?_eq_none h'] at h
    cases h

theorem open_strs {H : Type} {enc : TypeId × Value → H} {W : World} {a0 : Option Addr} {len cap fuel : Nat} {x : DataW H × List MemPlace}
    (hf : DataW.trod enc Tryz.prog W 0 (fun _ => true) true fuel 34 [.slice a0 len cap] = some x) :
    ∃ (l : List ByteArray), l.length = len ∧ StrsAt W a0 l ∧ (l = [] ∨ ∃ spare, x.1 = .slice (strs l) spare) := by
  rcases open_strings Tryz.underlying34 Tryz.underlying9 Tryz.cellsString hf with ⟨hcs, hx⟩ | ⟨a, len', cap', ss, hcs, _, hl, hm, hz, hx, hcell, _⟩
  · simp at hcs
    obtain ⟨rfl, rfl, rfl⟩ := hcs
    exact ⟨[], rfl, fun h => absurd h (by simp), .inl rfl⟩
  · simp at hcs
    obtain ⟨rfl, rfl, rfl⟩ := hcs
    subst hx
    simp only [if_true] at hz
    obtain ⟨b, off, spot⟩ := a
    refine ⟨ss.take len, by simp; omega, fun h0 => ?_, .inr ⟨_, rfl⟩⟩
    have h0' : 0 < len := by simp at h0; omega
    have hspot : spot = none := by simpa [Addr.add] using World.cell?_spot (hcell 0 (by omega))
    subst hspot
    refine ⟨b, off, rfl, cell_in (hcell 0 (by omega)), fun j X hX => ?_⟩
    have hj : j < len := by
      have := (List.getElem?_eq_some_iff.1 hX).1
      simp at this
      omega
    have hX' : ss.getD j ByteArray.empty = X := by
      rw [List.getElem?_take_of_lt hj] at hX
      simp [List.getD, hX]
    rw [← hX']
    have := hcell j (by omega)
    by_cases hj0 : j = 0
    · subst hj0; simpa [Addr.add] using this
    · simpa [Addr.add, hj0] using this

/-- The reach, of such a slice. -/
theorem sized_arg {H : Type} {ts : List TypeId} {ds : List (DataW H)} (h : (DataW.weightsEach Tryz.prog ts ds).all (· ≤ reachBytes) = true) {j : Nat} {x : DataW H} {l : List ByteArray}
    (ht : ts[j]? = some 34) (hd : ds[j]? = some x) (hx : l = [] ∨ ∃ spare, x = .slice (strs l) spare) : l.length ≤ 140737488351232 ∧ ∀ s ∈ l, s.size ≤ 140737488351232 := by
  rcases hx with rfl | ⟨spare, rfl⟩
  · exact ⟨by simp, fun s hs => by cases hs⟩
  · refine ⟨?_, fun s hs => ?_⟩
    · have := sized_slice h ht hd Tryz.underlying34
      rw [Tryz.bytesString] at this
      simp only [strs, List.length_map, reachBytes] at this
      omega
    · have := sized_strs h ht hd Tryz.underlying34 (bs := s.data.toList) (by unfold strs; exact List.mem_map.2 ⟨s, hs, rfl⟩)
      simp only [Array.length_toList, ByteArray.size_data, reachBytes] at this
      exact this

end Go.Proofs.YtfkdeknblbmibaaGreatDoor
