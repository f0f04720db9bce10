/-
  The law LexPlain is walked: it answers true, and of what was there nothing has turned. Condition: the text is not longer than 2^50 octets.
-/
import Derived.Test.YtfkdeknblbmibaaGreatDoorA26
namespace Go.Proofs.YtfkdeknblbmibaaGreatDoor
open Go.RowKit

set_option maxRecDepth 100000 in
set_option maxHeartbeats 4000000 in
theorem LexPlain_any (s : ByteArray) (bash : Bool) (w : World) (hs : s.size ≤ 1125899906842624) :
    Calls Tryz.prog 6 #[.string s, .bool bash] w fun e w' => e = .returned (.bool true) ∧ Kept (fun _ => False) w w' := by
  go_enter Tryz.func6, Tryz.ntmps6
  go_wp2_with fail
  refine (alive_any w).mono ?_
  rintro e w1 ⟨rfl, k1⟩
  have K1 := Lib.hid k1
  clear k1
  go_wp2_with fail
  refine (refPlain_any s _ hs).mono ?_
  rintro e w2 ⟨rfl, n, rfl⟩
  cases hb : plainB s with
  | false =>
    go_wp2
    go_ret
    exact ⟨rfl, K1.out.drewN n⟩
  | true =>
    by_cases hlong : 60000 < s.size
    · have hgt : (s.size : Int) > 60000 := by omega
      go_wp2
      go_ret
      exact ⟨rfl, K1.out.drewN n⟩
    · have hgt : ¬ (s.size : Int) > 60000 := by omega
      have hgb : decide (60000 < s.size) = false := decide_eq_false (by omega)
      obtain ⟨hne, hall⟩ := plainB_yes hb
      have e1 : ByteArray.size ⟨#[32, 120]⟩ = 2 := rfl
      have hword := word_plain (s ++ ⟨#[32, 120]⟩) s bash (by simp only [ByteArray.data_append, Array.toList_append]) hne hall
      have hcall := fun wx => Word_any (s ++ ⟨#[32, 120]⟩) bash wx (by simp only [ByteArray.size_append, e1]; omega) (by rw [hword]; simp)
      rw [hword] at hcall
      have HC := Lib.hid hcall
      clear hcall hword hne hall hlong
      go_wp2_with fail
      refine (HC.out _).mono ?_
      rintro e w3 ⟨v', rfl, o2, k2⟩
      obtain ⟨g, cap, rfl, hB, hg, c1, c4, l1, l2, l3⟩ := one_word o2 rfl (by show s.size ≤ _; omega)
      have L1 := Lib.hid l1
      have L2 := Lib.hid l2
      have K2 := Lib.hid ((K1.out.drewN n).next k2)
      have hbx : ∀ wx, Kept (fun _ => False) (w3.alloc (.cells #[.slice (some ⟨g, 0, none⟩) 1 cap] 25)) wx → wx.cell? ⟨w3.heap.size, 0, none⟩ = some (.slice (some ⟨g, 0, none⟩) 1 cap) ∧ wx.cell? ⟨g, 4, none⟩ = some (.bool false) ∧ Kept (fun _ => False) w3 wx := fun wx k => by
        have h1 : (w3.alloc (.cells #[.slice (some ⟨g, 0, none⟩) 1 cap] 25)).heap[w3.heap.size]? = some (.cells #[.slice (some ⟨g, 0, none⟩) 1 cap] 25 (0, 0)) := heap_alloc_new _ _
        have k' : Kept (fun _ => False) w3 wx := ((Kept.refl _ _).alloc _).next k
        exact ⟨cell_of_one ((k.block _ (heap_lt h1) (fun f => f)).trans h1), (k'.cell hg (fun f => f)).trans c4, k'⟩
      have HBX := Lib.hid hbx
      clear k2 l1 l2 l3 o2 hbx c1 c4 HC
      go_wp2_with fail
      refine (L1.out _ ((Kept.refl _ _).alloc _)).mono ?_
      rintro e w4 ⟨rfl, k3⟩
      obtain ⟨x0, x4, kx⟩ := HBX.out _ k3
      have KX := Lib.hid kx
      clear k3 kx
      go_wp2_with fail
      refine (L2.out _ KX.out).mono ?_
      rintro e w5 ⟨rfl, k4⟩
      have K5 := Lib.hid ((K2.out.next KX.out).next k4)
      clear k4 x0 x4
      go_wp2
      go_ret
      exact ⟨rfl, K5.out⟩

end Go.Proofs.YtfkdeknblbmibaaGreatDoor
