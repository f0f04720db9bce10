/-
  lex: caught is walked: idle where the frame returns; where the frame panics with lex's own fault it stores place and error and calls the closure.
-/
import Derived.Test.YtfkdeknblbmibaaGreatDoorA14
import Derived.Recover
import Derived.Defers
namespace Go.Proofs.YtfkdeknblbmibaaGreatDoor
open Go.RowKit

set_option maxRecDepth 100000 in
theorem assert_nil (w : World) : (Instr.typeAssert Value.nilIface 20 62 true).run Tryz.prog w = .ok (.tuple #[.agg #[.int .i64 0, .int .i64 0], .bool false]) w := by kernel_rfl
set_option maxRecDepth 100000 in
theorem assert_fault (x y : Int) (w : World) : (Instr.typeAssert (faultV x y) 20 62 true).run Tryz.prog w = .ok (.tuple #[.agg #[.int .i64 x, .int .i64 y], .bool true]) w := by kernel_rfl

set_option maxRecDepth 100000 in
set_option maxHeartbeats 1000000 in
theorem caught_idle (v1 v2 v3 : Value) (w : World) :
    CallsD Tryz.prog 18 #[v1, v2, v3] .returning w fun e u' w' => e = .returned (.tuple #[]) ∧ u' = .returning ∧ ∃ o, w' = w.alloc o := by
  refine callsD_of_wpS Tryz.func18 rfl fun c₀ cs hu => ?_
  apply wpS_seq
  generalize hT : Code.wpS Tryz.prog (Code.seq _ _) _ = T
  apply wpS_region
  have h1 := assert_nil w
  simp [wpOpsS, go_sem, recoverD, hu, Tryz.ntmps18, Exit.thenS, h1]
  subst hT
  refine wpS_of_wp ?_
  simp only [Array.replicate_succ, Array.replicate_zero, List.push_toArray, List.append_toArray, List.nil_append, List.cons_append, List.setIfInBounds_toArray, List.set_cons_succ, List.set_cons_zero]
  go_wp2
  cases c₀
  simp_all [bodyPostS, results, Tryz.results18]
  exact ⟨_, rfl⟩

set_option maxRecDepth 100000 in
set_option maxHeartbeats 1000000 in
theorem caught_Word (p q : Nat) (cap : Array Value) (x y : Int) (older : List PanicEntry) (w : World) {vp vq : Value} (hp : w.heap[p]? = some (.cells #[vp] 3 (0, 0))) (hq : w.heap[q]? = some (.cells #[vq] 26 (0, 0))) (hpq : p ≠ q) (Post : World → Prop)
    (hcl : ∀ wx, wx.heap[p]? = some (.cells #[.int .i64 x] 3 (0, 0)) → wx.heap[q]? = some (.cells #[.int .i64 y] 26 (0, 0)) → Kept (fun k => k = p ∨ k = q) w wx → Calls Tryz.prog 19 cap wx fun e w' => e = .returned (.tuple #[]) ∧ Post w') :
    CallsD Tryz.prog 18 #[.pointer (some ⟨p, 0, none⟩), .pointer (some ⟨q, 0, none⟩), .func (.func 19) #[] cap] (.panicking ({ v := faultV x y, recovered := false } :: older)) w fun e u' w' =>
      e = .returned (.tuple #[]) ∧ u' = .panicking ({ v := faultV x y, recovered := true } :: older) ∧ Post w' := by
  refine callsD_of_wpS Tryz.func18 rfl fun c₀ cs hu => ?_
  apply wpS_seq
  generalize hT : Code.wpS Tryz.prog (Code.seq _ _) _ = T
  apply wpS_region
  have h1 := assert_fault x y w
  simp [wpOpsS, go_sem, recoverD, hu, Tryz.ntmps18, Exit.thenS, h1]
  subst hT
  refine wpS_of_wp ?_
  simp only [Array.replicate_succ, Array.replicate_zero, List.push_toArray, List.append_toArray, List.nil_append, List.cons_append, List.setIfInBounds_toArray, List.set_cons_succ, List.set_cons_zero]
  go_upto_region 2 with fail
  generalize hwq : World.alloc _ _ = w1
  have k1 : Kept (fun _ => False) w w1 := by rw [← hwq]; exact (Kept.refl _ _).alloc _
  have hp1 := (k1.block p (heap_lt hp) (fun f => f)).trans hp
  have hq1 := (k1.block q (heap_lt hq) (fun f => f)).trans hq
  have hf1 : w1.heap[w.heap.size]? = some (.cells #[.int .i64 x, .int .i64 y] 62 (0, 0)) := by rw [← hwq]; exact heap_alloc_new _ _
  have hpl := heap_lt hp
  have hql := heap_lt hq
  have e0 : w1.cell? ⟨w.heap.size, 0, none⟩ = some (.int .i64 x) := by rw [cell_at hf1]; rfl
  have e1 : w1.cell? ⟨w.heap.size, 1, none⟩ = some (.int .i64 y) := by rw [cell_at hf1]; rfl
  have e2 := cell_of_one hp1
  have e3 := cell_of_one hq1
  have g2 := free_of_one hp1
  have g3 := free_of_one hq1
  have HP := Lib.hid hp1
  have HQ := Lib.hid hq1
  have HK := Lib.hid k1
  have HCL := Lib.hid hcl
  clear hwq hp1 hq1 hf1 k1 hp hq h1 hcl
  go_region
  go_upto_region 3 with fail
  generalize hw2 : World.setCell _ _ _ = w2
  have k2 : Kept (fun k => k = p ∨ k = q) w w2 := by
    rw [← hw2]
    have ka : Kept (fun k => k = p ∨ k = q) w w1 := HK.out.mono (fun _ _ f => f.elim)
    first
      | exact kept_at (kept_at ka 0 _ (fun _ => .inl rfl)) 0 _ (fun _ => .inr rfl)
      | exact (kept_at (kept_at ka 0 _ (fun _ => .inl rfl)) 0 _ (fun _ => .inr rfl)).drew
  have hp2 : w2.heap[p]? = some (.cells #[.int .i64 x] 3 (0, 0)) := by
    rw [← hw2]
    exact heap_setCell_keep (one_setCell HP.out) _ _ hpq
  have hq2 : w2.heap[q]? = some (.cells #[.int .i64 y] 26 (0, 0)) := by
    rw [← hw2]
    exact one_setCell (heap_setCell_keep HQ.out _ _ (fun e => hpq e.symm))
  have CL := Lib.hid (HCL.out w2.drew hp2 hq2 k2.drew)
  clear hw2 k2 hp2 hq2 e0 e1 e2 e3 g2 g3
  go_wp2_with fail
  refine CL.out.mono ?_
  rintro e w3 ⟨rfl, h3⟩
  go_wp2
  cases c₀
  simp_all [bodyPostS, results, Tryz.results18]

set_option maxRecDepth 100000 in
set_option maxHeartbeats 1000000 in
theorem caught_Closed (p q : Nat) (cap : Array Value) (x y : Int) (older : List PanicEntry) (w : World) {vp vq : Value} (hp : w.heap[p]? = some (.cells #[vp] 3 (0, 0))) (hq : w.heap[q]? = some (.cells #[vq] 26 (0, 0))) (hpq : p ≠ q) (Post : World → Prop)
    (hcl : ∀ wx, wx.heap[p]? = some (.cells #[.int .i64 x] 3 (0, 0)) → wx.heap[q]? = some (.cells #[.int .i64 y] 26 (0, 0)) → Kept (fun k => k = p ∨ k = q) w wx → Calls Tryz.prog 23 cap wx fun e w' => e = .returned (.tuple #[]) ∧ Post w') :
    CallsD Tryz.prog 18 #[.pointer (some ⟨p, 0, none⟩), .pointer (some ⟨q, 0, none⟩), .func (.func 23) #[] cap] (.panicking ({ v := faultV x y, recovered := false } :: older)) w fun e u' w' =>
      e = .returned (.tuple #[]) ∧ u' = .panicking ({ v := faultV x y, recovered := true } :: older) ∧ Post w' := by
  refine callsD_of_wpS Tryz.func18 rfl fun c₀ cs hu => ?_
  apply wpS_seq
  generalize hT : Code.wpS Tryz.prog (Code.seq _ _) _ = T
  apply wpS_region
  have h1 := assert_fault x y w
  simp [wpOpsS, go_sem, recoverD, hu, Tryz.ntmps18, Exit.thenS, h1]
  subst hT
  refine wpS_of_wp ?_
  simp only [Array.replicate_succ, Array.replicate_zero, List.push_toArray, List.append_toArray, List.nil_append, List.cons_append, List.setIfInBounds_toArray, List.set_cons_succ, List.set_cons_zero]
  go_upto_region 2 with fail
  generalize hwq : World.alloc _ _ = w1
  have k1 : Kept (fun _ => False) w w1 := by rw [← hwq]; exact (Kept.refl _ _).alloc _
  have hp1 := (k1.block p (heap_lt hp) (fun f => f)).trans hp
  have hq1 := (k1.block q (heap_lt hq) (fun f => f)).trans hq
  have hf1 : w1.heap[w.heap.size]? = some (.cells #[.int .i64 x, .int .i64 y] 62 (0, 0)) := by rw [← hwq]; exact heap_alloc_new _ _
  have hpl := heap_lt hp
  have hql := heap_lt hq
  have e0 : w1.cell? ⟨w.heap.size, 0, none⟩ = some (.int .i64 x) := by rw [cell_at hf1]; rfl
  have e1 : w1.cell? ⟨w.heap.size, 1, none⟩ = some (.int .i64 y) := by rw [cell_at hf1]; rfl
  have e2 := cell_of_one hp1
  have e3 := cell_of_one hq1
  have g2 := free_of_one hp1
  have g3 := free_of_one hq1
  have HP := Lib.hid hp1
  have HQ := Lib.hid hq1
  have HK := Lib.hid k1
  have HCL := Lib.hid hcl
  clear hwq hp1 hq1 hf1 k1 hp hq h1 hcl
  go_region
  go_upto_region 3 with fail
  generalize hw2 : World.setCell _ _ _ = w2
  have k2 : Kept (fun k => k = p ∨ k = q) w w2 := by
    rw [← hw2]
    have ka : Kept (fun k => k = p ∨ k = q) w w1 := HK.out.mono (fun _ _ f => f.elim)
    first
      | exact kept_at (kept_at ka 0 _ (fun _ => .inl rfl)) 0 _ (fun _ => .inr rfl)
      | exact (kept_at (kept_at ka 0 _ (fun _ => .inl rfl)) 0 _ (fun _ => .inr rfl)).drew
  have hp2 : w2.heap[p]? = some (.cells #[.int .i64 x] 3 (0, 0)) := by
    rw [← hw2]
    exact heap_setCell_keep (one_setCell HP.out) _ _ hpq
  have hq2 : w2.heap[q]? = some (.cells #[.int .i64 y] 26 (0, 0)) := by
    rw [← hw2]
    exact one_setCell (heap_setCell_keep HQ.out _ _ (fun e => hpq e.symm))
  have CL := Lib.hid (HCL.out w2.drew hp2 hq2 k2.drew)
  clear hw2 k2 hp2 hq2 e0 e1 e2 e3 g2 g3
  go_wp2_with fail
  refine CL.out.mono ?_
  rintro e w3 ⟨rfl, h3⟩
  go_wp2
  cases c₀
  simp_all [bodyPostS, results, Tryz.results18]

set_option maxRecDepth 100000 in
set_option maxHeartbeats 1000000 in
theorem caught_Heredoc (p q : Nat) (cap : Array Value) (x y : Int) (older : List PanicEntry) (w : World) {vp vq : Value} (hp : w.heap[p]? = some (.cells #[vp] 3 (0, 0))) (hq : w.heap[q]? = some (.cells #[vq] 26 (0, 0))) (hpq : p ≠ q) (Post : World → Prop)
    (hcl : ∀ wx, wx.heap[p]? = some (.cells #[.int .i64 x] 3 (0, 0)) → wx.heap[q]? = some (.cells #[.int .i64 y] 26 (0, 0)) → Kept (fun k => k = p ∨ k = q) w wx → Calls Tryz.prog 27 cap wx fun e w' => e = .returned (.tuple #[]) ∧ Post w') :
    CallsD Tryz.prog 18 #[.pointer (some ⟨p, 0, none⟩), .pointer (some ⟨q, 0, none⟩), .func (.func 27) #[] cap] (.panicking ({ v := faultV x y, recovered := false } :: older)) w fun e u' w' =>
      e = .returned (.tuple #[]) ∧ u' = .panicking ({ v := faultV x y, recovered := true } :: older) ∧ Post w' := by
  refine callsD_of_wpS Tryz.func18 rfl fun c₀ cs hu => ?_
  apply wpS_seq
  generalize hT : Code.wpS Tryz.prog (Code.seq _ _) _ = T
  apply wpS_region
  have h1 := assert_fault x y w
  simp [wpOpsS, go_sem, recoverD, hu, Tryz.ntmps18, Exit.thenS, h1]
  subst hT
  refine wpS_of_wp ?_
  simp only [Array.replicate_succ, Array.replicate_zero, List.push_toArray, List.append_toArray, List.nil_append, List.cons_append, List.setIfInBounds_toArray, List.set_cons_succ, List.set_cons_zero]
  go_upto_region 2 with fail
  generalize hwq : World.alloc _ _ = w1
  have k1 : Kept (fun _ => False) w w1 := by rw [← hwq]; exact (Kept.refl _ _).alloc _
  have hp1 := (k1.block p (heap_lt hp) (fun f => f)).trans hp
  have hq1 := (k1.block q (heap_lt hq) (fun f => f)).trans hq
  have hf1 : w1.heap[w.heap.size]? = some (.cells #[.int .i64 x, .int .i64 y] 62 (0, 0)) := by rw [← hwq]; exact heap_alloc_new _ _
  have hpl := heap_lt hp
  have hql := heap_lt hq
  have e0 : w1.cell? ⟨w.heap.size, 0, none⟩ = some (.int .i64 x) := by rw [cell_at hf1]; rfl
  have e1 : w1.cell? ⟨w.heap.size, 1, none⟩ = some (.int .i64 y) := by rw [cell_at hf1]; rfl
  have e2 := cell_of_one hp1
  have e3 := cell_of_one hq1
  have g2 := free_of_one hp1
  have g3 := free_of_one hq1
  have HP := Lib.hid hp1
  have HQ := Lib.hid hq1
  have HK := Lib.hid k1
  have HCL := Lib.hid hcl
  clear hwq hp1 hq1 hf1 k1 hp hq h1 hcl
  go_region
  go_upto_region 3 with fail
  generalize hw2 : World.setCell _ _ _ = w2
  have k2 : Kept (fun k => k = p ∨ k = q) w w2 := by
    rw [← hw2]
    have ka : Kept (fun k => k = p ∨ k = q) w w1 := HK.out.mono (fun _ _ f => f.elim)
    first
      | exact kept_at (kept_at ka 0 _ (fun _ => .inl rfl)) 0 _ (fun _ => .inr rfl)
      | exact (kept_at (kept_at ka 0 _ (fun _ => .inl rfl)) 0 _ (fun _ => .inr rfl)).drew
  have hp2 : w2.heap[p]? = some (.cells #[.int .i64 x] 3 (0, 0)) := by
    rw [← hw2]
    exact heap_setCell_keep (one_setCell HP.out) _ _ hpq
  have hq2 : w2.heap[q]? = some (.cells #[.int .i64 y] 26 (0, 0)) := by
    rw [← hw2]
    exact one_setCell (heap_setCell_keep HQ.out _ _ (fun e => hpq e.symm))
  have CL := Lib.hid (HCL.out w2.drew hp2 hq2 k2.drew)
  clear hw2 k2 hp2 hq2 e0 e1 e2 e3 g2 g3
  go_wp2_with fail
  refine CL.out.mono ?_
  rintro e w3 ⟨rfl, h3⟩
  go_wp2
  cases c₀
  simp_all [bodyPostS, results, Tryz.results18]

end Go.Proofs.YtfkdeknblbmibaaGreatDoor
