/-
  lex: Heredoc is walked from place 0 for a plain body: it answers the lines up to the one that ends them, or says that the text is short. Condition: the text has at most 2^60 octets.
-/
import Derived.Test.YtfkdeknblbmibaaGreatDoorA29
namespace Go.Proofs.YtfkdeknblbmibaaGreatDoor
open Go.RowKit

theorem clear_Heredoc (b : Nat) (w : World) {v : Value} (h : w.heap[b]? = some (.cells #[v] 25 (0, 0))) : Calls Tryz.prog 27 #[.pointer (some ⟨b, 0, none⟩)] w fun e w' => e = .returned (.tuple #[]) ∧ w' = w.setCell ⟨b, 0, none⟩ (.slice none 0 0) := by
  have c := cell_of_one h
  have f := free_of_one h
  go_enter Tryz.func27, Tryz.ntmps27
  go_wp2
  go_end0
  exact ⟨rfl, rfl⟩

set_option maxRecDepth 100000 in
set_option maxHeartbeats 2000000 in
theorem Heredoc_none (s e : ByteArray) (bash : Bool) (w : World) (hs : s.size ≤ 1152921504606846976) (hb : bodyS s e (s.size + 1) 0 = none) :
    Calls Tryz.prog 16 #[.string s, .int .i64 0, .string e, .bool true, .bool bash] w fun e w' => e = .returned (.tuple #[.agg #[.slice none 0 0], .int .i64 s.size, .int .i64 8]) ∧ Kept (fun _ => False) w w' := by
  have hmf : ∀ (fn : Fn) (first cap : Array Value) (wx : World), (Instr.makeFunc fn first cap).run Tryz.prog wx = .ok (.func fn first cap) wx := fun _ _ _ _ => rfl
  have hmin : min (0 : Int) s.size = 0 := by omega
  have hcall := fun wx => body_any s e wx hs
  rw [hb] at hcall
  have HC := Lib.hid hcall
  have hsl := slAt (s := s) (i := (0 : Int)) (j := (s.size : Int)) (a := 0) (b := s.size) rfl rfl (by omega) (by omega)
  clear hcall hb
  go_enter_defers Tryz.func16, Tryz.ntmps16
  go_wp2_with fail
  refine (place_any s 0 _).mono ?_
  rintro x w1 ⟨rfl, rfl⟩
  go_wp2_with fail
  refine (HC.out _).mono ?_
  rintro x w1 ⟨rfl, m, rfl⟩
  unfold bodyV
  go_wp2_with fail
  refine (need_no _ _ _).mono ?_
  rintro x w1 ⟨he, rfl⟩
  unfold Faults at he
  subst he
  generalize hw3 : World.drewN _ _ = w3
  have K3 : Kept (fun _ => False) w w3 := by rw [← hw3]; exact ((((Kept.refl _ _).alloc _).alloc _).alloc _).drewN _
  have hv3 : w3.heap[w.heap.size]? = some (.cells #[.slice none 0 0] 25 (0, 0)) := by
    rw [← hw3]
    exact heap_alloc_keep (heap_alloc_keep (heap_alloc_new _ _) _) _
  have hp3 : w3.heap[w.heap.size + 1]? = some (.cells #[.int .i64 0] 3 (0, 0)) := by
    rw [← hw3]
    refine heap_alloc_keep ?_ _
    rw [show w.heap.size + 1 = (w.alloc (.cells #[.slice none 0 0] 25)).heap.size by simp]
    exact heap_alloc_new _ _
  have hq3 : w3.heap[w.heap.size + 1 + 1]? = some (.cells #[.int .i64 0] 26 (0, 0)) := by
    rw [← hw3]
    show (World.alloc _ _).heap[w.heap.size + 1 + 1]? = _
    rw [show w.heap.size + 1 + 1 = ((w.alloc (.cells #[.slice none 0 0] 25)).alloc (.cells #[.int .i64 0] 3)).heap.size by simp]
    exact heap_alloc_new _ _
  clear hw3
  go_wp2
  refine leaves_cons (f := 18) (args := #[.pointer (some ⟨w.heap.size + 1, 0, none⟩), .pointer (some ⟨w.heap.size + 1 + 1, 0, none⟩), .func (.func 27) #[] #[.pointer (some ⟨w.heap.size, 0, none⟩)]]) (by simp) (by simp [go_sem]) ?_
  refine (caught_Heredoc (w.heap.size + 1) (w.heap.size + 1 + 1) #[.pointer (some ⟨w.heap.size, 0, none⟩)] s.size 8 [] w3 hp3 hq3 (by omega) (fun wx => wx.cell? ⟨w.heap.size, 0, none⟩ = some (.slice none 0 0) ∧ wx.cell? ⟨w.heap.size + 1, 0, none⟩ = some (.int .i64 s.size) ∧ wx.cell? ⟨w.heap.size + 1 + 1, 0, none⟩ = some (.int .i64 8) ∧ Kept (fun _ => False) w wx) ?_).mono ?_
  · intro wx h1 h2 h3
    have hv4 := (h3.block w.heap.size (heap_lt hv3) (by omega)).trans hv3
    refine (clear_Heredoc _ wx hv4).mono ?_
    rintro e w' ⟨rfl, rfl⟩
    exact ⟨rfl, cell_of_one (one_setCell hv4), cell_of_one (heap_setCell_keep h1 _ _ (by simp)), cell_of_one (heap_setCell_keep h2 _ _ (by simp; omega)), kept_at (K3.trans h3 (fun i hi e => by omega)) 0 _ (fun h => absurd h (Nat.lt_irrefl _))⟩
  · rintro e u' w'' ⟨rfl, rfl, d0, d1, d2, K5⟩
    simp [Leaves, settle, results, Tryz.results16, go_sem, d0, d1, d2, K5]

set_option maxRecDepth 100000 in
set_option maxHeartbeats 2000000 in
theorem Heredoc_ok (s e t : ByteArray) (bash : Bool) (a n : Nat) (w : World) (hs : s.size ≤ 1152921504606846976) (hn : n ≤ s.size) (hb : bodyS s e (s.size + 1) 0 = some (a, n)) (ht : s.extract 0 a = t) (h0 : Lib.indexByte t.data.toList 0 < 0) :
    Calls Tryz.prog 16 #[.string s, .int .i64 0, .string e, .bool true, .bool bash] w fun e w' => ∃ v', e = .returned (.tuple #[.agg #[v'], .int .i64 n, .int .i64 0]) ∧ OwnsP w' w.heap.size v' [{ kind := 1, text := t, quoted := true }] ∧ Kept (fun _ => False) w w' := by
  have hmf : ∀ (fn : Fn) (first cap : Array Value) (wx : World), (Instr.makeFunc fn first cap).run Tryz.prog wx = .ok (.func fn first cap) wx := fun _ _ _ _ => rfl
  have hmin : min (0 : Int) s.size = 0 := by omega
  have hcall := fun wx => body_any s e wx hs
  rw [hb] at hcall
  unfold bodyV at hcall
  simp only [ht] at hcall
  have HC := Lib.hid hcall
  have hsl := slAt (s := s) (i := (0 : Int)) (j := (s.size : Int)) (a := 0) (b := s.size) rfl rfl (by omega) (by omega)
  obtain ⟨k, hk⟩ : ∃ k, Lib.indexByte t.data.toList 0 = k := ⟨_, rfl⟩
  have hib : ∀ wx, Calls Tryz.prog 29 #[.string t, .int .u8 0] wx fun e w' => e = .returned (.int .i64 k) ∧ w' = wx := fun wx => by
    have := Tryz.strings_IndexByte t 0 wx
    rw [show (0 : Int).toNat.toUInt8 = 0 from rfl, hk] at this
    exact this
  rw [hk] at h0
  have HIB := Lib.hid hib
  clear hcall hb ht hib hk
  go_enter_defers Tryz.func16, Tryz.ntmps16
  go_wp2_with fail
  refine (place_any s 0 _).mono ?_
  rintro x w1 ⟨rfl, rfl⟩
  go_wp2_with fail
  refine (HC.out _).mono ?_
  rintro x w1 ⟨rfl, m, rfl⟩
  go_wp2_with fail
  refine (need_yes _ _ _).mono ?_
  rintro x w1 ⟨rfl, rfl⟩
  go_wp2_with fail
  refine (HIB.out _).mono ?_
  rintro x w1 ⟨rfl, rfl⟩
  go_wp2_with fail
  refine (need_yes _ _ _).mono ?_
  rintro x w1 ⟨rfl, rfl⟩
  generalize hw3 : World.drewN _ _ = w3
  have K3 : Kept (fun _ => False) w w3 := by rw [← hw3]; exact ((((Kept.refl _ _).alloc _).alloc _).alloc _).drewN _
  have hv3 : w3.heap[w.heap.size]? = some (.cells #[.slice none 0 0] 25 (0, 0)) := by
    rw [← hw3]
    exact heap_alloc_keep (heap_alloc_keep (heap_alloc_new _ _) _) _
  have hp3 : w3.heap[w.heap.size + 1]? = some (.cells #[.int .i64 0] 3 (0, 0)) := by
    rw [← hw3]
    refine heap_alloc_keep ?_ _
    rw [show w.heap.size + 1 = (w.alloc (.cells #[.slice none 0 0] 25)).heap.size by simp]
    exact heap_alloc_new _ _
  have hq3 : w3.heap[w.heap.size + 1 + 1]? = some (.cells #[.int .i64 0] 26 (0, 0)) := by
    rw [← hw3]
    show (World.alloc _ _).heap[w.heap.size + 1 + 1]? = _
    rw [show w.heap.size + 1 + 1 = ((w.alloc (.cells #[.slice none 0 0] 25)).alloc (.cells #[.int .i64 0] 3)).heap.size by simp]
    exact heap_alloc_new _ _
  clear hw3
  have c0 := cell_of_one hv3
  have c1 := cell_of_one hp3
  have c2 := cell_of_one hq3
  have g0 := free_of_one hv3
  have g1 := free_of_one hp3
  have g2 := free_of_one hq3
  have hvl := heap_lt hv3
  have hpl := heap_lt hp3
  have hql := heap_lt hq3
  have V3 := Lib.hid hv3
  have P3 := Lib.hid hp3
  have Q3 := Lib.hid hq3
  have K3' := Lib.hid K3
  clear hv3 hp3 hq3 K3
  go_wp2
  have f0 : ((((w3.setCell ⟨w.heap.size, 0, none⟩ (.slice (some ⟨w3.heap.size, 0, none⟩) 1 1)).setCell ⟨w.heap.size + 1, 0, none⟩ (.int .i64 n)).setCell ⟨w.heap.size + 1 + 1, 0, none⟩ (.int .i64 0)).alloc (.cells #[.int .i64 1, .string t, .string ⟨#[]⟩, .string ⟨#[]⟩, .bool true, .slice none 0 0, .slice none 0 0, .slice none 0 0, .slice none 0 0, .int .i64 0] 32)).heap[w.heap.size]? = some (.cells #[.slice (some ⟨w3.heap.size, 0, none⟩) 1 1] 25 (0, 0)) := heap_alloc_keep (heap_setCell_keep (heap_setCell_keep (one_setCell V3.out) _ _ (by simp)) _ _ (by simp; omega)) _
  have f1 : ((((w3.setCell ⟨w.heap.size, 0, none⟩ (.slice (some ⟨w3.heap.size, 0, none⟩) 1 1)).setCell ⟨w.heap.size + 1, 0, none⟩ (.int .i64 n)).setCell ⟨w.heap.size + 1 + 1, 0, none⟩ (.int .i64 0)).alloc (.cells #[.int .i64 1, .string t, .string ⟨#[]⟩, .string ⟨#[]⟩, .bool true, .slice none 0 0, .slice none 0 0, .slice none 0 0, .slice none 0 0, .int .i64 0] 32)).heap[w.heap.size + 1]? = some (.cells #[.int .i64 n] 3 (0, 0)) := heap_alloc_keep (heap_setCell_keep (one_setCell (heap_setCell_keep P3.out _ _ (by simp))) _ _ (by simp)) _
  have f2 : ((((w3.setCell ⟨w.heap.size, 0, none⟩ (.slice (some ⟨w3.heap.size, 0, none⟩) 1 1)).setCell ⟨w.heap.size + 1, 0, none⟩ (.int .i64 n)).setCell ⟨w.heap.size + 1 + 1, 0, none⟩ (.int .i64 0)).alloc (.cells #[.int .i64 1, .string t, .string ⟨#[]⟩, .string ⟨#[]⟩, .bool true, .slice none 0 0, .slice none 0 0, .slice none 0 0, .slice none 0 0, .int .i64 0] 32)).heap[w.heap.size + 1 + 1]? = some (.cells #[.int .i64 0] 26 (0, 0)) := heap_alloc_keep (one_setCell (heap_setCell_keep (heap_setCell_keep Q3.out _ _ (by simp; omega)) _ _ (by simp))) _
  have o5 : OwnsP ((((w3.setCell ⟨w.heap.size, 0, none⟩ (.slice (some ⟨w3.heap.size, 0, none⟩) 1 1)).setCell ⟨w.heap.size + 1, 0, none⟩ (.int .i64 n)).setCell ⟨w.heap.size + 1 + 1, 0, none⟩ (.int .i64 0)).alloc (.cells #[.int .i64 1, .string t, .string ⟨#[]⟩, .string ⟨#[]⟩, .bool true, .slice none 0 0, .slice none 0 0, .slice none 0 0, .slice none 0 0, .int .i64 0] 32)) w.heap.size (.slice (some ⟨w3.heap.size, 0, none⟩) 1 1) [{ kind := 1, text := t, quoted := true }] := by
    have := OwnsP.one (((w3.setCell ⟨w.heap.size, 0, none⟩ (.slice (some ⟨w3.heap.size, 0, none⟩) 1 1)).setCell ⟨w.heap.size + 1, 0, none⟩ (.int .i64 n)).setCell ⟨w.heap.size + 1 + 1, 0, none⟩ (.int .i64 0)) w.heap.size (by simp [World.setCell]; omega) { kind := 1, text := t, quoted := true } rfl rfl rfl rfl
    rw [show ((((w3.setCell ⟨w.heap.size, 0, none⟩ (.slice (some ⟨w3.heap.size, 0, none⟩) 1 1)).setCell ⟨w.heap.size + 1, 0, none⟩ (.int .i64 n)).setCell ⟨w.heap.size + 1 + 1, 0, none⟩ (.int .i64 0))).heap.size = w3.heap.size by simp [World.setCell]] at this
    exact this
  have K5 : Kept (fun _ => False) w ((((w3.setCell ⟨w.heap.size, 0, none⟩ (.slice (some ⟨w3.heap.size, 0, none⟩) 1 1)).setCell ⟨w.heap.size + 1, 0, none⟩ (.int .i64 n)).setCell ⟨w.heap.size + 1 + 1, 0, none⟩ (.int .i64 0)).alloc (.cells #[.int .i64 1, .string t, .string ⟨#[]⟩, .string ⟨#[]⟩, .bool true, .slice none 0 0, .slice none 0 0, .slice none 0 0, .slice none 0 0, .int .i64 0] 32)) := (K3'.out.trans (S' := fun k => k = w.heap.size ∨ k = w.heap.size + 1 ∨ k = w.heap.size + 1 + 1) (kept_at (kept_at (kept_at (Kept.refl _ _) 0 _ (fun _ => .inl rfl)) 0 _ (fun _ => .inr (.inl rfl))) 0 _ (fun _ => .inr (.inr rfl))) (fun i hi e => by omega)).alloc _
  generalize World.alloc _ _ = w5 at f0 f1 f2 o5 K5 ⊢
  refine leaves_cons (f := 18) (args := #[.pointer (some ⟨w.heap.size + 1, 0, none⟩), .pointer (some ⟨w.heap.size + 1 + 1, 0, none⟩), .func (.func 27) #[] #[.pointer (some ⟨w.heap.size, 0, none⟩)]]) (by simp) (by simp [go_sem]) ?_
  refine (caught_idle _ _ _ _).mono ?_
  rintro e u' w'' ⟨rfl, rfl, o, rfl⟩
  have d0 := cell_of_one (heap_alloc_keep f0 o)
  have d1 := cell_of_one (heap_alloc_keep f1 o)
  have d2 := cell_of_one (heap_alloc_keep f2 o)
  have K6 := K5.alloc o
  have o6 := o5.kept ((Kept.refl (fun _ => False) w5).alloc o) (fun _ _ _ f => f)
  simp [Leaves, settle, results, Tryz.results16, go_sem, d0, d1, d2, K6, o6]

end Go.Proofs.YtfkdeknblbmibaaGreatDoor
