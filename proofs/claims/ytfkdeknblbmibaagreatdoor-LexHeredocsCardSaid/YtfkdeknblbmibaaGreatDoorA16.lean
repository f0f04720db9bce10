/-
  lex: Closed is walked from place 0: it answers 'closedS'. Condition: the text has at most 2^60 octets.
-/
import Derived.Test.YtfkdeknblbmibaaGreatDoorA15
namespace Go.Proofs.YtfkdeknblbmibaaGreatDoor
open Go.RowKit

theorem nothing_any (w : World) : Calls Tryz.prog 23 #[] w fun e w' => e = .returned (.tuple #[]) ∧ w' = w := by
  go_enter Tryz.func23, Tryz.ntmps23
  go_wp2
  go_end0
  exact ⟨rfl, rfl⟩

/-- What Closed answers. -/
def closedV (r : R Unit) : Value :=
  match r with
  | .ok _ a' => .tuple #[.int .i64 a', .int .i64 0]
  | .bad a' er => .tuple #[.int .i64 a', .int .i64 er]
  | .out => undef

set_option maxRecDepth 100000 in
set_option maxHeartbeats 1000000 in
theorem Closed_any (s : ByteArray) (w : World) (hs : s.size ≤ 1152921504606846976) :
    Calls Tryz.prog 11 #[.string s, .int .i64 0] w fun e w' => e = .returned (closedV (closedS s (s.size + 2) 0 0)) ∧ Kept (fun _ => False) w w' := by
  have hmf : ∀ (fn : Fn) (first cap : Array Value) (wx : World), (Instr.makeFunc fn first cap).run Tryz.prog wx = .ok (.func fn first cap) wx := fun _ _ _ _ => rfl
  have hmin : min (0 : Int) s.size = 0 := by omega
  have hcall := fun wx (hx : ScanAt wx (w.heap.size + 1 + 1) s 0 false 0) => closed_any (w.heap.size + 1 + 1) s 0 false 0 wx hs (Nat.zero_le _) hx
  rw [show s.size + 2 - 0 = s.size + 2 from rfl] at hcall
  have hfu := (closed_fuel s (s.size + 2) (by omega)).1 0 0 (by omega)
  obtain ⟨r, hr⟩ : ∃ r, closedS s (s.size + 2) 0 0 = r := ⟨_, rfl⟩
  rw [hr] at hcall hfu ⊢
  have HCA := Lib.hid hcall
  have HFU := Lib.hid hfu
  clear hcall hfu hr
  go_enter_defers Tryz.func11, Tryz.ntmps11
  go_wp2_with fail
  refine (place_any s 0 _).mono ?_
  rintro e w1 ⟨rfl, rfl⟩
  go_upto_region 3 with fail
  generalize hw2 : World.alloc _ _ = w2
  have k2 : Kept (fun _ => False) w w2 := by rw [← hw2]; exact (((Kept.refl _ _).alloc _).alloc _).alloc _
  have x2 : ScanAt w2 (w.heap.size + 1 + 1) s 0 false 0 := by
    rw [← hw2]
    show (World.alloc _ _).heap[w.heap.size + 1 + 1]? = _
    rw [show w.heap.size + 1 + 1 = ((w.alloc (.cells #[.int .i64 0] 3)).alloc (.cells #[.int .i64 0] 26)).heap.size by simp]
    exact heap_alloc_new _ _
  have hp2 : w2.heap[w.heap.size]? = some (.cells #[.int .i64 0] 3 (0, 0)) := by
    rw [← hw2]
    exact heap_alloc_keep (heap_alloc_keep (heap_alloc_new _ _) _) _
  have hq2 : w2.heap[w.heap.size + 1]? = some (.cells #[.int .i64 0] 26 (0, 0)) := by
    rw [← hw2]
    refine heap_alloc_keep ?_ _
    rw [show w.heap.size + 1 = (w.alloc (.cells #[.int .i64 0] 3)).heap.size by simp]
    exact heap_alloc_new _ _
  have hpl := heap_lt hp2
  have hql := heap_lt hq2
  have X2 := Lib.hid x2
  have K2 := Lib.hid k2
  have P2 := Lib.hid hp2
  have Q2 := Lib.hid hq2
  clear hw2 k2 x2 hp2 hq2
  cases r with
  | out => exact (HFU.out rfl).elim
  | bad a' er =>
    go_wp2_with fail
    refine (HCA.out _ X2.out).mono ?_
    rintro e w3 ⟨he, k3⟩
    unfold Faults at he
    subst he
    have hp3 := (k3.block _ hpl (by omega)).trans P2.out
    have hq3 := (k3.block _ hql (by omega)).trans Q2.out
    have K3 := Lib.hid (K2.out.trans (S' := fun k => k = w.heap.size + 1 + 1) k3 (fun i hi e => by omega))
    go_wp2
    refine leaves_cons (f := 18) (args := #[.pointer (some ⟨w.heap.size, 0, none⟩), .pointer (some ⟨w.heap.size + 1, 0, none⟩), .func (.func 23) #[] #[]]) (by simp) (by simp [go_sem]) ?_
    refine (caught_Closed w.heap.size (w.heap.size + 1) #[] a' er [] w3 hp3 hq3 (by omega) (fun wx => wx.cell? ⟨w.heap.size, 0, none⟩ = some (.int .i64 a') ∧ wx.cell? ⟨w.heap.size + 1, 0, none⟩ = some (.int .i64 er) ∧ Kept (fun _ => False) w wx) ?_).mono ?_
    · intro wx h1 h2 h3
      refine (nothing_any wx).mono ?_
      rintro e w' ⟨rfl, rfl⟩
      exact ⟨rfl, cell_of_one h1, cell_of_one h2, K3.out.trans h3 (fun i hi e => by omega)⟩
    · rintro e u' w'' ⟨rfl, rfl, d1, d2, K5⟩
      simp [Leaves, settle, results, Tryz.results11, go_sem, closedV, d1, d2, K5]
  | ok u a' =>
    go_wp2_with fail
    refine (HCA.out _ X2.out).mono ?_
    rintro e w3 ⟨rfl, x3, k3⟩
    have hp3 := (k3.block _ hpl (by omega)).trans P2.out
    have hq3 := (k3.block _ hql (by omega)).trans Q2.out
    have c1 := cell_of_one hp3
    have c2 := cell_of_one hq3
    have g1 := free_of_one hp3
    have g2 := free_of_one hq3
    have hpl3 := heap_lt hp3
    have hql3 := heap_lt hq3
    have K4 := Lib.hid (show Kept (fun _ => False) w ((w3.setCell ⟨w.heap.size, 0, none⟩ (.int .i64 a')).setCell ⟨w.heap.size + 1, 0, none⟩ (.int .i64 0)) from kept_at (kept_at (K2.out.trans (S' := fun k => k = w.heap.size + 1 + 1) k3 (fun i hi e => by omega)) 0 _ (fun h => absurd h (Nat.lt_irrefl _))) 0 _ (fun h => by omega))
    have hp4 : ((w3.setCell ⟨w.heap.size, 0, none⟩ (.int .i64 a')).setCell ⟨w.heap.size + 1, 0, none⟩ (.int .i64 0)).heap[w.heap.size]? = some (.cells #[.int .i64 a'] 3 (0, 0)) := heap_setCell_keep (one_setCell hp3) _ _ (by simp)
    have hq4 : ((w3.setCell ⟨w.heap.size, 0, none⟩ (.int .i64 a')).setCell ⟨w.heap.size + 1, 0, none⟩ (.int .i64 0)).heap[w.heap.size + 1]? = some (.cells #[.int .i64 0] 26 (0, 0)) := one_setCell (heap_setCell_keep hq3 _ _ (by simp))
    have HP4 := Lib.hid hp4
    have HQ4 := Lib.hid hq4
    clear hp4 hq4
    go_wp2
    generalize World.setCell _ _ _ = w4 at K4 HP4 HQ4 ⊢
    refine leaves_cons (f := 18) (args := #[.pointer (some ⟨w.heap.size, 0, none⟩), .pointer (some ⟨w.heap.size + 1, 0, none⟩), .func (.func 23) #[] #[]]) (by simp) (by simp [go_sem]) ?_
    refine (caught_idle _ _ _ _).mono ?_
    rintro e u' w'' ⟨rfl, rfl, o, rfl⟩
    have d1 := cell_of_one (heap_alloc_keep HP4.out o)
    have d2 := cell_of_one (heap_alloc_keep HQ4.out o)
    have K5 := K4.out.alloc o
    simp [Leaves, settle, results, Tryz.results11, go_sem, closedV, d1, d2, K5]

end Go.Proofs.YtfkdeknblbmibaaGreatDoor
