/-
  lex: place, need, has, took, peek, more and isName are walked: each hands back what its Lean twin says, the scan's own block apart the world is as it was. Condition: the scan's block reads as 'ScanAt' says.
-/
import Derived.Test.YtfkdeknblbmibaaGreatDoorShelf
import Derived.Test.YtfkdeknblbmibaaGreatDoorW
import Derived.Deep.QuietTactic
import Derived.BigQuiet
import Derived.StillTailTactics
namespace Go.Proofs.YtfkdeknblbmibaaGreatDoor
open Go.RowKit

/-- The block of a scan. -/
def ScanAt (w : World) (xb : Nat) (s : ByteArray) (a : Nat) (bash : Bool) (deep : Int) : Prop :=
  w.heap[xb]? = some (.cells #[.string s, .int .i64 a, .bool bash, .int .i64 deep] 53 (0, 0))

namespace ScanAt
variable {w w' : World} {xb : Nat} {s : ByteArray} {a : Nat} {bash : Bool} {deep : Int}
theorem c0 (h : ScanAt w xb s a bash deep) : w.cell? ⟨xb, 0, none⟩ = some (.string s) := by rw [cell_at h]; rfl
theorem c1 (h : ScanAt w xb s a bash deep) : w.cell? ⟨xb, 1, none⟩ = some (.int .i64 a) := by rw [cell_at h]; rfl
theorem c2 (h : ScanAt w xb s a bash deep) : w.cell? ⟨xb, 2, none⟩ = some (.bool bash) := by rw [cell_at h]; rfl
theorem c3 (h : ScanAt w xb s a bash deep) : w.cell? ⟨xb, 3, none⟩ = some (.int .i64 deep) := by rw [cell_at h]; rfl
theorem f (h : ScanAt w xb s a bash deep) (i : Nat) : w.frozen? ⟨xb, i, none⟩ = false := free_at h i
theorem lt (h : ScanAt w xb s a bash deep) : xb < w.heap.size := heap_lt h
theorem drewN (h : ScanAt w xb s a bash deep) (n : Nat) : ScanAt (w.drewN n) xb s a bash deep := h
theorem set1 (h : ScanAt w xb s a bash deep) (a' : Nat) : ScanAt (w.setCell ⟨xb, 1, none⟩ (.int .i64 a')) xb s a' bash deep := heap_setCell_at h 1 _
theorem set3 (h : ScanAt w xb s a bash deep) (d' : Int) : ScanAt (w.setCell ⟨xb, 3, none⟩ (.int .i64 d')) xb s a bash d' := heap_setCell_at h 3 _
theorem alloc (h : ScanAt w xb s a bash deep) (o : Obj) : ScanAt (w.alloc o) xb s a bash deep := heap_alloc_keep h o
theorem other (h : ScanAt w xb s a bash deep) (p : Addr) (v : Value) (hp : xb ≠ p.block) : ScanAt (w.setCell p v) xb s a bash deep := heap_setCell_keep h p v hp
theorem kept {S : Nat → Prop} (h : ScanAt w xb s a bash deep) (k : Kept S w w') (hS : ¬ S xb) : ScanAt w' xb s a bash deep := (k.block xb h.lt hS).trans h
end ScanAt

/-- A fault, panicked with. -/
def faultV (at' er : Int) : Value := .iface 62 (.agg #[.int .i64 at', .int .i64 er])
def Faults (at' er : Int) (e : Ending) : Prop := e = .panicked [{ v := faultV at' er, recovered := false }]

set_option maxHeartbeats 400000 in
theorem place_any (s : ByteArray) (at' : Int) (w : World) :
    Calls Tryz.prog 21 #[.string s, .int .i64 at'] w fun e w' => e = .returned (.int .i64 (min (max at' 0) s.size)) ∧ w' = w := by
  go_enter Tryz.func21, Tryz.ntmps21
  go_wp2
  go_ret
  exact ⟨rfl, rfl⟩

set_option maxHeartbeats 400000 in
theorem need_yes (at' er : Int) (w : World) :
    Calls Tryz.prog 20 #[.bool true, .int .i64 at', .int .i64 er] w fun e w' => e = .returned (.tuple #[]) ∧ w' = w := by
  go_enter Tryz.func20, Tryz.ntmps20
  go_wp2
  go_end0
  exact ⟨rfl, rfl⟩

set_option maxHeartbeats 400000 in
theorem need_no (at' er : Int) (w : World) :
    Calls Tryz.prog 20 #[.bool false, .int .i64 at', .int .i64 er] w fun e w' => Faults at' er e ∧ w' = w := by
  go_enter Tryz.func20, Tryz.ntmps20
  go_wp2
  exact ⟨rfl, rfl, rfl⟩

set_option maxHeartbeats 400000 in
theorem has_any (xb : Nat) (s t : ByteArray) (a : Nat) (bash : Bool) (deep : Int) (w : World) (ha : a ≤ s.size) (hx : ScanAt w xb s a bash deep) :
    Calls Tryz.prog 31 #[.pointer (some ⟨xb, 0, none⟩), .string t] w fun e w' => e = .returned (.bool (Lib.hasPrefix (s.data.toList.drop a) t.data.toList)) ∧ ∃ n, w' = w.drewN n := by
  have c0 := hx.c0
  have c1 := hx.c1
  go_enter Tryz.func31, Tryz.ntmps31
  go_wp2
  go_quiet ((go_at_call 45; exact Calls.quiet_of_same ((Tryz.strings_HasPrefix _ _ _).mono fun e w' h => h)))
  go_wp2
  go_ret
  refine ⟨?_, nq, rfl⟩
  simp only [Array.getD_eq_getD_getElem?, List.getElem?_toArray, List.getElem?_cons_succ, List.getElem?_cons_zero, Option.getD_some]
  rw [Lib.extract_to_end]

theorem hasPrefix_le {l p : List UInt8} (h : Lib.hasPrefix l p = true) : p.length ≤ l.length := by
  unfold Lib.hasPrefix at h
  have : p <+: l := by simpa using h
  exact this.length_le

theorem pre_size {s t : ByteArray} {a : Nat} (ha : a ≤ s.size) (h : Lib.hasPrefix (s.data.toList.drop a) t.data.toList = true) : a + t.size ≤ s.size := by
  have h1 := hasPrefix_le h
  have e1 : s.data.toList.length = s.size := by simp
  have e2 : t.data.toList.length = t.size := by simp
  rw [List.length_drop, e1, e2] at h1
  omega

set_option maxHeartbeats 400000 in
theorem took_yes (xb : Nat) (s t : ByteArray) (a : Nat) (bash : Bool) (deep : Int) (w : World) (hs : s.size ≤ 4611686018427387904) (ha : a ≤ s.size) (hx : ScanAt w xb s a bash deep)
    (hp : Lib.hasPrefix (s.data.toList.drop a) t.data.toList = true) :
    Calls Tryz.prog 46 #[.pointer (some ⟨xb, 0, none⟩), .string t] w fun e w' => e = .returned (.bool true) ∧ ScanAt w' xb s (a + t.size) bash deep ∧ Kept (fun k => k = xb) w w' := by
  have c0 := hx.c0
  have c1 := hx.c1
  have f1 := hx.f 1
  have hle := pre_size ha hp
  have Hp := Lib.hid hp
  clear hp
  go_enter Tryz.func46, Tryz.ntmps46
  go_wp2_with fail
  refine (has_any xb s t a bash deep w ha hx).mono ?_
  rintro e w1 ⟨rfl, n, rfl⟩
  rw [Hp.out]
  go_wp2
  go_ret
  refine ⟨rfl, ?_, ((Kept.refl _ _).drewN n).setCell _ _ (fun _ => rfl)⟩
  have := (hx.drewN n).set1 (a + t.size)
  simpa using this

set_option maxHeartbeats 400000 in
theorem took_no (xb : Nat) (s t : ByteArray) (a : Nat) (bash : Bool) (deep : Int) (w : World) (ha : a ≤ s.size) (hx : ScanAt w xb s a bash deep)
    (hp : Lib.hasPrefix (s.data.toList.drop a) t.data.toList = false) :
    Calls Tryz.prog 46 #[.pointer (some ⟨xb, 0, none⟩), .string t] w fun e w' => e = .returned (.bool false) ∧ ∃ n, w' = w.drewN n := by
  have Hp := Lib.hid hp
  clear hp
  go_enter Tryz.func46, Tryz.ntmps46
  go_wp2_with fail
  refine (has_any xb s t a bash deep w ha hx).mono ?_
  rintro e w1 ⟨rfl, n, rfl⟩
  rw [Hp.out]
  go_wp2
  go_ret
  exact ⟨rfl, n, rfl⟩

theorem wrap_add {a n : Nat} (h : a + n ≤ 9223372036854775807) : IntKind.i64.wrap ((a : Int) + n) = (a : Int) + n := IntWalk.i64_in _ (by omega)

theorem getD_byte {s : ByteArray} {i : Nat} (h : i < s.size) : s.data.toList.getD i 0 = s[i] := by
  have h' : i < s.data.toList.length := by simpa using h
  rw [List.getD_eq_getElem?_getD, List.getElem?_eq_getElem h']
  rfl

/-- An octet of a text. -/
def oct (s : ByteArray) (k : Nat) : UInt8 := s.data.toList.getD k 0
theorem ixAt {s : ByteArray} {i : Int} {k : Nat} (hi : i = (k : Int)) (hk : k < s.size) (wx : World) :
    (Instr.index 9 (.string s) (.int .i64 i)).run Tryz.prog wx = .ok (.int .u8 (oct s k).toNat) wx := by
  subst hi
  rw [run_index_string (P := Tryz.prog) (w := wx) 9 s .i64 (k : Int) Tryz.underlying9, dif_pos ⟨by omega, by omega⟩, oct, getD_byte hk]
  rfl

set_option maxHeartbeats 400000 in
theorem peek_in (xb : Nat) (s : ByteArray) (a n : Nat) (bash : Bool) (deep : Int) (w : World) (hs : s.size ≤ 4611686018427387904) (ha : a + n < s.size) (hx : ScanAt w xb s a bash deep) :
    Calls Tryz.prog 53 #[.pointer (some ⟨xb, 0, none⟩), .int .i64 n] w fun e w' => e = .returned (.int .u8 (oct s (a + n)).toNat) ∧ ∃ m, w' = w.drewN m := by
  have c0 := hx.c0
  have c1 := hx.c1
  have hw := wrap_add (show a + n ≤ 9223372036854775807 by omega)
  have hd : (a : Int) + n < s.size := by omega
  have hix := ixAt (s := s) (i := (a : Int) + n) (k := a + n) (by omega) ha
  go_enter Tryz.func53, Tryz.ntmps53
  go_wp2
  go_quiet (fail)
  go_wp2
  go_quiet (fail)
  go_wp2
  go_ret
  exact ⟨rfl, _, World.drewN_drewN _ _ _⟩

set_option maxHeartbeats 400000 in
theorem peek_out (xb : Nat) (s : ByteArray) (a n : Nat) (bash : Bool) (deep : Int) (w : World) (hn : a + n ≤ 9223372036854775807) (ha : s.size ≤ a + n) (hx : ScanAt w xb s a bash deep) :
    Calls Tryz.prog 53 #[.pointer (some ⟨xb, 0, none⟩), .int .i64 n] w fun e w' => e = .returned (.int .u8 0) ∧ ∃ m, w' = w.drewN m := by
  have c0 := hx.c0
  have c1 := hx.c1
  have hw := wrap_add (show a + n ≤ 9223372036854775807 by omega)
  have hd : ¬ (a : Int) + n < s.size := by omega
  go_enter Tryz.func53, Tryz.ntmps53
  go_wp2
  go_quiet (fail)
  go_wp2
  go_ret
  exact ⟨rfl, _, rfl⟩

theorem oct_out {s : ByteArray} {k : Nat} (h : s.size ≤ k) : oct s k = 0 := by
  unfold oct
  rw [List.getD_eq_getElem?_getD, List.getElem?_eq_none (by simpa using h)]
  rfl

/-- The octet that comes, or one behind it. -/
theorem peek_any (xb : Nat) (s : ByteArray) (a n : Nat) (bash : Bool) (deep : Int) (w : World) (hs : s.size ≤ 4611686018427387904) (hn : a + n ≤ 9223372036854775807) (hx : ScanAt w xb s a bash deep) :
    Calls Tryz.prog 53 #[.pointer (some ⟨xb, 0, none⟩), .int .i64 n] w fun e w' => e = .returned (.int .u8 (oct s (a + n)).toNat) ∧ ∃ m, w' = w.drewN m := by
  by_cases h : a + n < s.size
  · exact peek_in xb s a n bash deep w hs h hx
  · rw [oct_out (by omega)]
    exact peek_out xb s a n bash deep w hn (by omega) hx

set_option maxHeartbeats 400000 in
theorem more_yes (xb : Nat) (s : ByteArray) (a : Nat) (bash : Bool) (deep : Int) (w : World) (ha : a < s.size) (hx : ScanAt w xb s a bash deep) :
    Calls Tryz.prog 39 #[.pointer (some ⟨xb, 0, none⟩)] w fun e w' => e = .returned (.tuple #[]) ∧ ∃ m, w' = w.drewN m := by
  have c0 := hx.c0
  have c1 := hx.c1
  have hd : (a : Int) < s.size := by omega
  go_enter Tryz.func39, Tryz.ntmps39
  go_wp2
  go_quiet ((go_at_call 20; exact Calls.quiet_of_same (need_yes _ _ _)))
  go_wp2
  go_end0
  exact ⟨rfl, _, rfl⟩

set_option maxRecDepth 100000 in
set_option maxHeartbeats 400000 in
theorem more_no (xb : Nat) (s : ByteArray) (a : Nat) (bash : Bool) (deep : Int) (w : World) (ha : s.size ≤ a) (hx : ScanAt w xb s a bash deep) :
    Calls Tryz.prog 39 #[.pointer (some ⟨xb, 0, none⟩)] w fun e w' => Faults s.size 8 e ∧ ∃ m, w' = w.drewN m := by
  have c0 := hx.c0
  have c1 := hx.c1
  have hd : decide (a < s.size) = false := by simp; omega
  go_enter Tryz.func39, Tryz.ntmps39
  go_wp2
  go_still_tail 15, (by kernel_rfl)
  go_wp2_with fail
  refine (need_no _ _ _).mono ?_
  rintro e w' ⟨he, rfl⟩
  unfold Faults at he
  subst he
  exact ⟨rfl, rfl, 1, rfl⟩

def isNameI (c : Int) : Bool := decide (97 ≤ bits .or .u8 c 32) && decide (bits .or .u8 c 32 ≤ 122) && decide (c < 128) || c == 95 || decide (48 ≤ c) && decide (c ≤ 57)

set_option maxHeartbeats 800000 in
theorem isName_any (c : Int) (w : World) :
    Calls Tryz.prog 64 #[.int .u8 c] w fun e w' => e = .returned (.bool (isNameI c)) ∧ w' = w := by
  unfold isNameI
  go_enter Tryz.func64, Tryz.ntmps64
  go_wp2
  all_goals go_ret
  all_goals (refine ⟨congrArg (fun b => Ending.returned (Value.bool b)) ?_, rfl⟩; rw [Bool.eq_iff_iff]; (try simp); try omega)
#print axioms isName_any
end Go.Proofs.YtfkdeknblbmibaaGreatDoor
