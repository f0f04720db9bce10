/-
  lex: Word refuses a text of more than 65536 octets with error 5 at place 0.
-/
import Derived.Test.YtfkdeknblbmibaaGreatDoorA17
namespace Go.Proofs.YtfkdeknblbmibaaGreatDoor
open Go.RowKit

set_option maxRecDepth 100000 in
set_option maxHeartbeats 2000000 in
theorem Word_long (s : ByteArray) (bash : Bool) (w : World) (hs : 65536 < s.size) (hs2 : s.size ≤ 1152921504606846976) :
    Calls Tryz.prog 10 #[.string s, .int .i64 0, .bool bash] w fun e w' => e = .returned (.tuple #[.agg #[.slice none 0 0], .int .i64 0, .int .i64 5]) ∧ Kept (fun _ => False) w w' := by
  have hmf : ∀ (fn : Fn) (first cap : Array Value) (wx : World), (Instr.makeFunc fn first cap).run Tryz.prog wx = .ok (.func fn first cap) wx := fun _ _ _ _ => rfl
  have hle : ¬ (s.size : Int) ≤ 65536 := by omega
  have hle2 : decide (s.size ≤ 65536) = false := decide_eq_false (by omega)
  go_enter_defers Tryz.func10, Tryz.ntmps10
  go_wp2_with fail
  refine (need_not _ (by simp) _ _ _).mono ?_
  rintro e w1 ⟨he, rfl⟩
  subst he
  generalize hw3 : World.alloc _ _ = w3
  have K3 : Kept (fun _ => False) w w3 := by rw [← hw3]; exact (((Kept.refl _ _).alloc _).alloc _).alloc _
  have hv3 : w3.heap[w.heap.size]? = some (.cells #[.slice none 0 0] 25 (0, 0)) := by
    rw [← hw3]
    exact heap_alloc_keep (heap_alloc_keep (heap_alloc_new _ _) _) _
  have hp3 : w3.heap[w.heap.size + 1]? = some (.cells #[.int .i64 0] 3 (0, 0)) := by
    rw [← hw3]
    refine heap_alloc_keep ?_ _
    rw [show w.heap.size + 1 = (w.alloc (.cells #[.slice none 0 0] 25)).heap.size by simp]
    exact heap_alloc_new _ _
  have hq3 : w3.heap[w.heap.size + 1 + 1]? = some (.cells #[.int .i64 0] 26 (0, 0)) := by
    rw [← hw3]
    rw [show w.heap.size + 1 + 1 = ((w.alloc (.cells #[.slice none 0 0] 25)).alloc (.cells #[.int .i64 0] 3)).heap.size by simp]
    exact heap_alloc_new _ _
  clear hw3
  go_wp2
  refine leaves_cons (f := 18) (args := #[.pointer (some ⟨w.heap.size + 1, 0, none⟩), .pointer (some ⟨w.heap.size + 1 + 1, 0, none⟩), .func (.func 19) #[] #[.pointer (some ⟨w.heap.size, 0, none⟩)]]) (by simp) (by simp [go_sem]) ?_
  refine (caught_Word (w.heap.size + 1) (w.heap.size + 1 + 1) #[.pointer (some ⟨w.heap.size, 0, none⟩)] 0 5 [] w3 hp3 hq3 (by omega) (fun wx => wx.cell? ⟨w.heap.size, 0, none⟩ = some (.slice none 0 0) ∧ wx.cell? ⟨w.heap.size + 1, 0, none⟩ = some (.int .i64 0) ∧ wx.cell? ⟨w.heap.size + 1 + 1, 0, none⟩ = some (.int .i64 5) ∧ Kept (fun _ => False) w wx) ?_).mono ?_
  · intro wx h1 h2 h3
    have hv4 := (h3.block w.heap.size (heap_lt hv3) (by omega)).trans hv3
    refine (clear_Word _ wx hv4).mono ?_
    rintro e w' ⟨rfl, rfl⟩
    exact ⟨rfl, cell_of_one (one_setCell hv4), cell_of_one (heap_setCell_keep h1 _ _ (by simp)), cell_of_one (heap_setCell_keep h2 _ _ (by simp; omega)), kept_at (K3.trans h3 (fun i hi e => by omega)) 0 _ (fun h => absurd h (Nat.lt_irrefl _))⟩
  · rintro e u' w'' ⟨rfl, rfl, d0, d1, d2, K5⟩
    simp [Leaves, settle, results, Tryz.results10, go_sem, d0, d1, d2, K5]

end Go.Proofs.YtfkdeknblbmibaaGreatDoor
