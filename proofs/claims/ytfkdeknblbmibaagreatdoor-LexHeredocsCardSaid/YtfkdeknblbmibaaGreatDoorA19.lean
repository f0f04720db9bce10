/-
  The laws' own example holds: alive answers true.
-/
import Derived.Test.YtfkdeknblbmibaaGreatDoorA18
namespace Go.Proofs.YtfkdeknblbmibaaGreatDoor
open Go.RowKit

/-- a"$b" c -/
def aliveB : ByteArray := ⟨#[97, 34, 36, 98, 34, 32, 99]⟩

set_option maxRecDepth 100000 in
theorem alive_word : wordS aliveB false = .ok [{ kind := 1, text := ⟨#[97]⟩ }, { kind := 2, text := ⟨#[]⟩, name := ⟨#[98]⟩, quoted := true }] 5 := by kernel_rfl

set_option maxRecDepth 100000 in
set_option maxHeartbeats 2000000 in
theorem alive_any (w : World) : Calls Tryz.prog 9 #[] w fun e w' => e = .returned (.bool true) ∧ Kept (fun _ => False) w w' := by
  have hcall := fun wx => Word_any aliveB false wx (by decide) (by rw [alive_word]; simp)
  rw [alive_word] at hcall
  have HC := Lib.hid hcall
  clear hcall
  go_enter Tryz.func9, Tryz.ntmps9
  go_wp2_with fail
  refine (HC.out w).mono ?_
  rintro e w1 ⟨v', rfl, o1, k1⟩
  obtain ⟨g, cap, rfl, hB, hg, hf, hc⟩ := OwnsP.last (l := [{ kind := 1, text := ⟨#[97]⟩ }]) o1
  have c2 := atom_cell (hc 2 _ rfl)
  have c4 := atom_cell (hc 4 _ rfl)
  simp only [List.length_singleton, Nat.one_mul, Nat.reduceAdd] at c2 c4
  have K1 := Lib.hid k1
  clear o1 hc k1
  go_wp2
  go_ret
  exact ⟨rfl, K1.out.alloc _⟩

end Go.Proofs.YtfkdeknblbmibaaGreatDoor
