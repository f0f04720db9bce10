/-
  lex: a text in single quotes is walked: it answers 'quotedS', or panics with the fault that it says.
-/
import Derived.Test.YtfkdeknblbmibaaGreatDoorS
namespace Go.Proofs.YtfkdeknblbmibaaGreatDoor
open Go.RowKit

/-- What a function that reads a part answers. -/
def PartPost (xb : Nat) (s : ByteArray) (bash : Bool) (deep : Int) (w : World) (r : R Pt) (e : Ending) (w' : World) : Prop :=
  match r with
  | .ok p a' => ∃ v5 v6 v7 v8, e = .returned (.agg #[.int .i64 p.kind, .string p.text, .string p.name, .string p.op, .bool p.quoted, v5, v6, v7, v8, .int .i64 p.place]) ∧
      Rep w' (fun k => w.heap.size ≤ k) (slT p.word) v5 ∧ Rep w' (fun k => w.heap.size ≤ k) (slT p.more) v6 ∧ Rep w' (fun k => w.heap.size ≤ k) (slT p.sums) v7 ∧ Rep w' (fun k => w.heap.size ≤ k) (slT p.list) v8 ∧
      ScanAt w' xb s a' bash deep ∧ Kept (fun k => k = xb) w w'
  | .bad a' er => Faults a' er e ∧ Kept (fun k => k = xb) w w'
  | .out => True

theorem indexByte_lt (l : List UInt8) (c : UInt8) : Lib.indexByte l c < l.length ∧ -1 ≤ Lib.indexByte l c := by
  induction l with
  | nil => simp [Lib.indexByte]
  | cons d l ih =>
    unfold Lib.indexByte
    split
    · simp
    · split <;> simp <;> omega

theorem need_is (b : Bool) (hb : b = true) (at' er : Int) (w : World) :
    Calls Tryz.prog 20 #[.bool b, .int .i64 at', .int .i64 er] w fun e w' => e = .returned (.tuple #[]) ∧ w' = w := by subst hb; exact need_yes at' er w
theorem need_not (b : Bool) (hb : b = false) (at' er : Int) (w : World) :
    Calls Tryz.prog 20 #[.bool b, .int .i64 at', .int .i64 er] w fun e w' => e = .panicked [{ v := faultV at' er, recovered := false }] ∧ w' = w := by subst hb; exact need_no at' er w

/-- A part's zero. -/
def partZ : Array Value := #[.int .i64 0, .string ⟨#[]⟩, .string ⟨#[]⟩, .string ⟨#[]⟩, .bool false, .slice none 0 0, .slice none 0 0, .slice none 0 0, .slice none 0 0, .int .i64 0]

theorem partZ_cells {w : World} {b : Nat} {e : TypeId} (h : w.heap[b]? = some (.cells partZ e (0, 0))) : w.cell? ⟨b, 0, none⟩ = some (.int .i64 0) ∧ w.cell? ⟨b, 1, none⟩ = some (.string ⟨#[]⟩) ∧ w.cell? ⟨b, 2, none⟩ = some (.string ⟨#[]⟩) ∧ w.cell? ⟨b, 3, none⟩ = some (.string ⟨#[]⟩) ∧ w.cell? ⟨b, 4, none⟩ = some (.bool false) ∧ w.cell? ⟨b, 5, none⟩ = some (.slice none 0 0) ∧ w.cell? ⟨b, 6, none⟩ = some (.slice none 0 0) ∧ w.cell? ⟨b, 7, none⟩ = some (.slice none 0 0) ∧ w.cell? ⟨b, 8, none⟩ = some (.slice none 0 0) ∧ w.cell? ⟨b, 9, none⟩ = some (.int .i64 0) := by
  refine ⟨?_, ?_, ?_, ?_, ?_, ?_, ?_, ?_, ?_, ?_⟩ <;> (rw [cell_at h]; rfl)

theorem ten_cells {w : World} {b : Nat} {e : TypeId} {f : Nat × Nat} {v0 v1 v2 v3 v4 v5 v6 v7 v8 v9 : Value} (h : w.heap[b]? = some (.cells #[v0, v1, v2, v3, v4, v5, v6, v7, v8, v9] e f)) : w.cell? ⟨b, 0, none⟩ = some v0 ∧ w.cell? ⟨b, 1, none⟩ = some v1 ∧ w.cell? ⟨b, 2, none⟩ = some v2 ∧ w.cell? ⟨b, 3, none⟩ = some v3 ∧ w.cell? ⟨b, 4, none⟩ = some v4 ∧ w.cell? ⟨b, 5, none⟩ = some v5 ∧ w.cell? ⟨b, 6, none⟩ = some v6 ∧ w.cell? ⟨b, 7, none⟩ = some v7 ∧ w.cell? ⟨b, 8, none⟩ = some v8 ∧ w.cell? ⟨b, 9, none⟩ = some v9 := by
  refine ⟨?_, ?_, ?_, ?_, ?_, ?_, ?_, ?_, ?_, ?_⟩ <;> (rw [cell_at h]; rfl)

/-- Ten stores into a part's block. -/
theorem ten_set {w : World} {b : Nat} {e : TypeId} (h : w.heap[b]? = some (.cells partZ e (0, 0))) (v0 v1 v2 v3 v4 v5 v6 v7 v8 v9 : Value) : ((((((((((w.setCell ⟨b, 0, none⟩ v0).setCell ⟨b, 1, none⟩ v1).setCell ⟨b, 2, none⟩ v2).setCell ⟨b, 3, none⟩ v3).setCell ⟨b, 4, none⟩ v4).setCell ⟨b, 5, none⟩ v5).setCell ⟨b, 6, none⟩ v6).setCell ⟨b, 7, none⟩ v7).setCell ⟨b, 8, none⟩ v8).setCell ⟨b, 9, none⟩ v9).heap[b]? = some (.cells #[v0, v1, v2, v3, v4, v5, v6, v7, v8, v9] e (0, 0)) := by
  have h0 := heap_setCell_at h 0 v0
  have h1 := heap_setCell_at h0 1 v1
  have h2 := heap_setCell_at h1 2 v2
  have h3 := heap_setCell_at h2 3 v3
  have h4 := heap_setCell_at h3 4 v4
  have h5 := heap_setCell_at h4 5 v5
  have h6 := heap_setCell_at h5 6 v6
  have h7 := heap_setCell_at h6 7 v7
  have h8 := heap_setCell_at h7 8 v8
  have h9 := heap_setCell_at h8 9 v9
  simpa [partZ] using h9

theorem kept_at {S : Nat → Prop} {w0 w : World} {b : Nat} (h : Kept S w0 w) (i : Nat) (v : Value) (hb : b < w0.heap.size → S b) : Kept S w0 (w.setCell ⟨b, i, none⟩ v) := Kept.setCell h ⟨b, i, none⟩ v hb
theorem ten_kept {w : World} {b : Nat} (v0 v1 v2 v3 v4 v5 v6 v7 v8 v9 : Value) {S : Nat → Prop} {w0 : World} (h : Kept S w0 w) (hb : b < w0.heap.size → S b) : Kept S w0 ((((((((((w.setCell ⟨b, 0, none⟩ v0).setCell ⟨b, 1, none⟩ v1).setCell ⟨b, 2, none⟩ v2).setCell ⟨b, 3, none⟩ v3).setCell ⟨b, 4, none⟩ v4).setCell ⟨b, 5, none⟩ v5).setCell ⟨b, 6, none⟩ v6).setCell ⟨b, 7, none⟩ v7).setCell ⟨b, 8, none⟩ v8).setCell ⟨b, 9, none⟩ v9) := by
  have h0 := h
  have h1 := kept_at h0 0 v0 hb
  have h2 := kept_at h1 1 v1 hb
  have h3 := kept_at h2 2 v2 hb
  have h4 := kept_at h3 3 v3 hb
  have h5 := kept_at h4 4 v4 hb
  have h6 := kept_at h5 5 v5 hb
  have h7 := kept_at h6 6 v6 hb
  have h8 := kept_at h7 7 v7 hb
  have h9 := kept_at h8 8 v8 hb
  exact kept_at h9 9 v9 hb

theorem ten_scan {w : World} {b : Nat} (v0 v1 v2 v3 v4 v5 v6 v7 v8 v9 : Value) {xb : Nat} {s : ByteArray} {a : Nat} {bash : Bool} {deep : Int} (h : ScanAt w xb s a bash deep) (hb : xb ≠ b) : ScanAt ((((((((((w.setCell ⟨b, 0, none⟩ v0).setCell ⟨b, 1, none⟩ v1).setCell ⟨b, 2, none⟩ v2).setCell ⟨b, 3, none⟩ v3).setCell ⟨b, 4, none⟩ v4).setCell ⟨b, 5, none⟩ v5).setCell ⟨b, 6, none⟩ v6).setCell ⟨b, 7, none⟩ v7).setCell ⟨b, 8, none⟩ v8).setCell ⟨b, 9, none⟩ v9) xb s a bash deep := by
  have h0 := h
  have h1 := h0.other ⟨b, 0, none⟩ v0 hb
  have h2 := h1.other ⟨b, 1, none⟩ v1 hb
  have h3 := h2.other ⟨b, 2, none⟩ v2 hb
  have h4 := h3.other ⟨b, 3, none⟩ v3 hb
  have h5 := h4.other ⟨b, 4, none⟩ v4 hb
  have h6 := h5.other ⟨b, 5, none⟩ v5 hb
  have h7 := h6.other ⟨b, 6, none⟩ v6 hb
  have h8 := h7.other ⟨b, 7, none⟩ v7 hb
  have h9 := h8.other ⟨b, 8, none⟩ v8 hb
  exact h9.other ⟨b, 9, none⟩ v9 hb

/-- A part that lies in a block of the call's own, handed back. -/
theorem results_part {fn : Func} {p : Tmp} (h : fn.results = #[.cell p 32]) {tmps : Array Value} {w : World} {b : Nat} (hp : tmps.getD p undef = .pointer (some ⟨b, 0, none⟩)) {e : TypeId} {f : Nat × Nat} {v0 v1 v2 v3 v4 v5 v6 v7 v8 v9 : Value}
    (hc : w.heap[b]? = some (.cells #[v0, v1, v2, v3, v4, v5, v6, v7, v8, v9] e f)) : (results fn tmps).run Tryz.prog w = .ok (.agg #[v0, v1, v2, v3, v4, v5, v6, v7, v8, v9]) w := by
  obtain ⟨c0, c1, c2, c3, c4, c5, c6, c7, c8, c9⟩ := ten_cells hc
  have hp' : tmps[p]?.getD undef = .pointer (some ⟨b, 0, none⟩) := by simpa using hp
  simp [results, h, go_sem, hp', c0, c1, c2, c3, c4, c5, c6, c7, c8, c9]

set_option maxRecDepth 100000 in
set_option maxHeartbeats 1000000 in
theorem quoted_any (xb : Nat) (s : ByteArray) (a : Nat) (bash : Bool) (deep : Int) (w : World) (hs : s.size ≤ 4611686018427387904) (ha : a < s.size) (hx : ScanAt w xb s a bash deep) :
    Calls Tryz.prog 34 #[.pointer (some ⟨xb, 0, none⟩)] w (PartPost xb s bash deep w (quotedS s a)) := by
  have c0 := hx.c0
  have c1 := hx.c1
  have f1 := hx.f 1
  have hlt := hx.lt
  obtain ⟨r, hr⟩ : ∃ r, r = quotedS s a := ⟨_, rfl⟩
  rw [← hr]
  unfold quotedS at hr
  obtain ⟨n, hn⟩ : ∃ n, n = Lib.indexByte (s.data.toList.drop (a + 1)) 39 := ⟨_, rfl⟩
  have hnl := indexByte_lt (s.data.toList.drop (a + 1)) 39
  rw [← hn] at hnl hr
  have e3 : (s.data.toList.drop (a + 1)).length = s.size - (a + 1) := by simp
  rw [e3] at hnl
  have hsl := slFrom (s := s) (i := (a : Int) + 1) (a := a + 1) (by omega) (by omega)
  have hw1 : IntKind.i64.wrap ((a : Int) + 1) = (a : Int) + 1 := IntWalk.i64_in _ (by omega)
  have HIB : Hid (∀ wx : World, Calls Tryz.prog 29 #[.string (s.extract (a + 1) s.size), .int .u8 39] wx fun e w' => e = .returned (.int .i64 n) ∧ w' = wx) := by
    intro wx
    have := Tryz.strings_IndexByte (s.extract (a + 1) s.size) 39 wx
    rw [Lib.extract_to_end] at this
    rw [hn]
    exact this
  have HX := Lib.hid hx
  clear hx
  by_cases h0 : n < 0
  · simp only [if_pos h0] at hr
    have HR := Lib.hid hr
    have hb : decide (0 ≤ n) = false := decide_eq_false (by omega)
    clear hr hn e3
    go_enter Tryz.func34, Tryz.ntmps34
    go_wp2
    go_quiet ((go_at_call 29; exact Calls.quiet_of_same (HIB.out _)))
    go_wp2_with fail
    refine (need_no _ _ _).mono ?_
    rintro e w' ⟨he, rfl⟩
    unfold Faults at he
    subst he
    refine ⟨rfl, ?_⟩
    rw [HR.out]
    exact ⟨rfl, ((Kept.refl _ _).alloc _).drewN _⟩
  · simp only [if_neg h0] at hr
    obtain ⟨N, rfl⟩ : ∃ N : Nat, n = N := ⟨n.toNat, by omega⟩
    rw [Int.toNat_natCast] at hr
    obtain ⟨t, ht⟩ : ∃ t, t = s.extract (a + 1) (a + 1 + N) := ⟨_, rfl⟩
    rw [← ht] at hr
    have hsl2 := slAt (s := s) (i := (a : Int) + 1) (j := (a : Int) + 1 + N) (a := a + 1) (b := a + 1 + N) (by omega) (by omega) (by omega) (by omega)
    rw [← ht] at hsl2
    have hw2 : IntKind.i64.wrap ((a : Int) + 1 + N) = (a : Int) + 1 + N := IntWalk.i64_in _ (by omega)
    have HIT : Hid (∀ wx : World, Calls Tryz.prog 29 #[.string t, .int .u8 0] wx fun e w' => e = .returned (.int .i64 (ixI t 0)) ∧ w' = wx) := fun wx => Tryz.strings_IndexByte t 0 wx
    have HT := Lib.hid ht
    by_cases hz : 0 ≤ ixI t 0
    · rw [if_pos hz] at hr
      have HR := Lib.hid hr
      have hz2 : ¬ ixI t 0 < 0 := by omega
      clear hr hn e3 ht
      go_enter Tryz.func34, Tryz.ntmps34
      go_wp2
      go_quiet ((go_at_call 29; exact Calls.quiet_of_same (HIB.out _)))
      go_wp2_with fail
      refine (need_is _ (by simp) _ _ _).mono ?_
      rintro e w' ⟨rfl, rfl⟩
      go_wp2
      go_quiet (fail)
      go_wp2
      generalize hwq : World.drewN _ _ = wq
      have hxq : ScanAt wq xb s a bash deep := by rw [← hwq]; exact ((HX.out.alloc _).drewN _).drewN _
      have hkq : Kept (fun _ => False) w wq := by rw [← hwq]; exact (((Kept.refl _ _).alloc _).drewN _).drewN _
      clear hwq
      have q0 := hxq.c0
      have q1 := hxq.c1
      have HKQ := Lib.hid hkq
      clear hxq hkq
      refine wp_region_still_tail 7 (by kernel_rfl) (by kernel_rfl) ?_
      simp only [List.take_succ_cons, List.take_zero, List.drop_succ_cons, List.drop_zero]
      repeat still_step
      still_call (HIT.out _)
      repeat still_step
      refine wpStill_nil ?_
      go_wp2_with fail
      refine (need_not _ (by simp; omega) _ _ _).mono ?_
      rintro e w' ⟨rfl, rfl⟩
      refine ⟨rfl, ?_⟩
      rw [HR.out]
      exact ⟨rfl, (HKQ.out.mono (fun _ _ f => f.elim)).drew⟩
    · rw [if_neg hz] at hr
      have HR := Lib.hid hr
      have hz2 : decide (ixI t 0 < 0) = true := by simp; omega
      have hw3 : IntKind.i64.wrap ((N : Int) + 2) = (N : Int) + 2 := IntWalk.i64_in _ (by omega)
      clear hr hn e3 ht hz
      go_enter Tryz.func34, Tryz.ntmps34
      go_wp2
      go_quiet ((go_at_call 29; exact Calls.quiet_of_same (HIB.out _)))
      go_wp2_with fail
      refine (need_is _ (by simp) _ _ _).mono ?_
      rintro e w' ⟨rfl, rfl⟩
      go_wp2
      go_quiet (fail)
      go_wp2
      generalize hwq : World.drewN _ _ = wq
      have hxq : ScanAt wq xb s a bash deep := by rw [← hwq]; exact ((HX.out.alloc _).drewN _).drewN _
      have hkq : Kept (fun _ => False) w wq := by rw [← hwq]; exact (((Kept.refl _ _).alloc _).drewN _).drewN _
      have hrb : wq.heap[w.heap.size]? = some (.cells partZ 32 (0, 0)) := by rw [← hwq]; exact heap_alloc_new _ _
      clear hwq
      have q0 := hxq.c0
      have q1 := hxq.c1
      have g1 := hxq.f 1
      obtain ⟨r0, r1, r2, r3, r4, r5, r6, r7, r8, r9⟩ := partZ_cells hrb
      have gr := free_at hrb
      have hlq := heap_lt hrb
      have HKQ := Lib.hid hkq
      have HXQ := Lib.hid hxq
      have HRB := Lib.hid hrb
      clear hxq hkq hrb
      go_quiet ((first | (go_at_call 29; exact Calls.quiet_of_same (HIT.out _)) | (go_at_call 20; exact Calls.quiet_of_same (need_yes _ _ _))))
      go_wp2
      have hrb2 : ((wq.drewN nq).setCell ⟨xb, 1, none⟩ (.int .i64 ((a : Int) + (N + 2)))).heap[w.heap.size]? = some (.cells partZ 32 (0, 0)) := heap_setCell_keep HRB.out _ _ (by simp; omega)
      refine bodyPost_ret (results_part rfl rfl (ten_set hrb2 _ _ _ _ _ _ _ _ _ _)) rfl ?_
      rw [HR.out]
      refine ⟨_, _, _, _, rfl, Rep.nil _ _, Rep.nil _ _, Rep.nil _ _, Rep.nil _ _, ten_scan _ _ _ _ _ _ _ _ _ _ ?_ (by omega), ten_kept _ _ _ _ _ _ _ _ _ _ ?_ (fun h => absurd h (Nat.lt_irrefl _))⟩
      · have := (HXQ.out.drewN nq).set1 (a + (N + 2))
        simpa [Nat.add_assoc] using this
      · exact ((HKQ.out.mono (fun _ _ f => f.elim)).drewN nq).setCell ⟨xb, 1, none⟩ _ (fun _ => rfl)

end Go.Proofs.YtfkdeknblbmibaaGreatDoor
