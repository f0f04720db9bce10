/-
  octets: letter, digit, every, Name and Digits are walked: each answers its Lean twin, the world is as it was.
-/
import Derived.Test.YtfkdeknblbmibaaGreatDoorA1
import Derived.Lib.ConvBytes
namespace Go.Proofs.YtfkdeknblbmibaaGreatDoor
open Go.RowKit

/-! ### octets -/

def digitI (c : Int) : Bool := decide (48 ≤ c) && decide (c ≤ 57)
def letterI (c : Int) : Bool := decide (97 ≤ bits .or .u8 c 32) && decide (bits .or .u8 c 32 ≤ 122) && decide (c < 128) || c == 95

set_option maxHeartbeats 800000 in
theorem digit_any (c : Int) (w : World) :
    Calls Tryz.prog 80 #[.int .u8 c] w fun e w' => e = .returned (.bool (digitI c)) ∧ w' = w := by
  unfold digitI
  go_enter Tryz.func80, Tryz.ntmps80
  go_wp2
  all_goals go_ret
  all_goals (refine ⟨congrArg (fun b => Ending.returned (Value.bool b)) ?_, rfl⟩; rw [Bool.eq_iff_iff]; (try simp); try omega)

set_option maxHeartbeats 800000 in
theorem letter_any (c : Int) (w : World) :
    Calls Tryz.prog 82 #[.int .u8 c] w fun e w' => e = .returned (.bool (letterI c)) ∧ w' = w := by
  unfold letterI
  go_enter Tryz.func82, Tryz.ntmps82
  go_wp2
  all_goals go_ret
  all_goals (refine ⟨congrArg (fun b => Ending.returned (Value.bool b)) ?_, rfl⟩; rw [Bool.eq_iff_iff]; (try simp); try omega)

theorem digit_is (c : Int) (b : Bool) (h : digitI c = b) (w : World) :
    Calls Tryz.prog 80 #[.int .u8 c] w fun e w' => e = .returned (.bool b) ∧ w' = w := by subst h; exact digit_any c w
theorem letter_is (c : Int) (b : Bool) (h : letterI c = b) (w : World) :
    Calls Tryz.prog 82 #[.int .u8 c] w fun e w' => e = .returned (.bool b) ∧ w' = w := by subst h; exact letter_any c w

def nameI (c : Int) : Bool := letterI c || digitI c

set_option maxHeartbeats 400000 in
theorem name1_any (c : Int) (w : World) :
    Calls Tryz.prog 81 #[.int .u8 c] w fun e w' => e = .returned (.bool (nameI c)) ∧ w' = w := by
  cases hl : letterI c
  · have hn : nameI c = digitI c := by simp [nameI, hl]
    rw [hn]
    clear hn
    have HL := Lib.hid hl
    clear hl
    go_enter Tryz.func81, Tryz.ntmps81
    go_wp2_with fail
    refine (letter_is c false HL.out _).mono ?_
    rintro e w' ⟨rfl, rfl⟩
    go_wp2_with fail
    refine (digit_any c _).mono ?_
    rintro e w' ⟨rfl, rfl⟩
    go_wp2
    go_ret
    exact ⟨rfl, rfl⟩
  · have hn : nameI c = true := by simp [nameI, hl]
    rw [hn]
    clear hn
    have HL := Lib.hid hl
    clear hl
    go_enter Tryz.func81, Tryz.ntmps81
    go_wp2_with fail
    refine (letter_is c true HL.out _).mono ?_
    rintro e w' ⟨rfl, rfl⟩
    go_wp2
    go_ret
    exact ⟨rfl, rfl⟩

/-- A function value of octets that answers p of an octet and leaves the world alone. -/
def Enters (K : Nat) : Prop := ∀ (args : Array Value) (w : World), (callFunc K args).run Tryz.prog w = .ok (.enter K args) w
def Answers (K : Nat) (p : UInt8 → Bool) : Prop := Enters K ∧ ∀ (c : UInt8) (w : World), Calls Tryz.prog K #[.int .u8 c.toNat] w fun e w' => e = .returned (.bool (p c)) ∧ w' = w

set_option maxRecDepth 100000 in
set_option maxHeartbeats 400000 in
theorem every1_any (K b : Nat) (p : UInt8 → Bool) (hK : Answers K p) (c : UInt8) (w : World) (hb : w.cell? ⟨b, 0, none⟩ = some (.func (.func K) #[] #[])) :
    Calls Tryz.prog 94 #[.int .u8 c.toNat, .pointer (some ⟨b, 0, none⟩)] w fun e w' => e = .returned (.bool (!p c)) ∧ w' = w := by
  have HK := Lib.hid hK
  clear hK
  have hrun := HK.out.1
  unfold Enters at hrun
  go_enter Tryz.func94, Tryz.ntmps94
  go_wp2_with fail
  refine (HK.out.2 c _).mono ?_
  rintro e w' ⟨rfl, rfl⟩
  go_wp2
  go_ret
  exact ⟨rfl, rfl⟩

def IdxPost (s : ByteArray) (p : UInt8 → Bool) (w : World) (e : Ending) (w' : World) : Prop :=
  w' = w ∧ ((s.data.toList.all p = true ∧ e = .returned (.int .i64 (-1))) ∨ (s.data.toList.all p = false ∧ ∃ k : Nat, k < s.size ∧ e = .returned (.int .i64 k)))

theorem take_all_succ {s : ByteArray} {p : UInt8 → Bool} {k : Nat} (hk : k < s.size) (h : (s.data.toList.take k).all p = true) (hp : p (oct s k) = true) : (s.data.toList.take (k + 1)).all p = true := by
  have h' : k < s.data.toList.length := by simpa using hk
  rw [List.take_succ_eq_append_getElem h', List.all_append, h]
  have : s.data.toList[k] = oct s k := by rw [oct, getD_byte hk]; rfl
  simp [this, hp]

theorem all_false_at {s : ByteArray} {p : UInt8 → Bool} {k : Nat} (hk : k < s.size) (hp : p (oct s k) = false) : s.data.toList.all p = false := by
  have h' : k < s.data.toList.length := by simpa using hk
  rw [Bool.eq_false_iff]
  intro h
  rw [List.all_eq_true] at h
  have := h s.data.toList[k] (List.getElem_mem h')
  have e : s.data.toList[k] = oct s k := by rw [oct, getD_byte hk]; rfl
  rw [e, hp] at this
  cases this

set_option maxHeartbeats 1000000 in
theorem indexFunc_any (K b g cap : Nat) (s : ByteArray) (p : UInt8 → Bool) (hs : s.size ≤ 4611686018427387904) (hK : Answers K p) (w : World) (hb : w.cell? ⟨b, 0, none⟩ = some (.func (.func K) #[] #[]))
    (hc : ∀ j, j < s.size → w.cell? ⟨g, j, none⟩ = some (.int .u8 (oct s j).toNat)) :
    Calls Tryz.prog 111 #[.slice (some ⟨g, 0, none⟩) s.size cap, .func (.func 94) #[] #[.pointer (some ⟨b, 0, none⟩)]] w (IdxPost s p w) := by
  have HK := Lib.hid hK
  clear hK
  have HB := Lib.hid hb
  clear hb
  have HC := Lib.hid hc
  clear hc
  go_enter Tryz.func111, Tryz.ntmps111
  go_wp2
  go_loop [5, 8] (fun _ i => ∃ k : Nat, k ≤ s.size ∧ (s.data.toList.take k).all p = true ∧ i = .int .i64 k) (fun _ i => s.size - (intOf i).toNat)
  case atStart => exact ⟨0, Nat.zero_le _, by simp, rfl⟩
  case round =>
    obtain ⟨k, hk, hal, rfl⟩ := hrel
    have HA := Lib.hid hal
    clear hal
    by_cases hlt : k < s.size
    · have hcell := HC.out k hlt
      cases hp : p (oct s k)
      · have HP := Lib.hid hp
        clear hp
        go_wp2_with fail
        refine (every1_any K b p HK.out (oct s k) _ HB.out).mono ?_
        rintro e w' ⟨rfl, rfl⟩
        rw [HP.out]
        go_wp2
        go_ret
        exact ⟨rfl, .inr ⟨all_false_at hlt HP.out, k, hlt, rfl⟩⟩
      · have HP := Lib.hid hp
        clear hp
        go_wp2_with fail
        refine (every1_any K b p HK.out (oct s k) _ HB.out).mono ?_
        rintro e w' ⟨rfl, rfl⟩
        rw [HP.out]
        go_wp2
        go_round
        case rel => exact ⟨k + 1, by omega, take_all_succ hlt HA.out HP.out, by go_num⟩
        case measure => simp [intOf]; omega
    · go_wp2
      go_ret
      refine ⟨rfl, .inl ⟨?_, rfl⟩⟩
      have := HA.out
      rwa [List.take_of_length_le (by simp; omega)] at this

theorem enters_digit : Enters 80 := fun _ _ => by kernel_rfl
theorem enters_name1 : Enters 81 := fun _ _ => by kernel_rfl
theorem answers_digit : Answers 80 (fun c => digitI c.toNat) := ⟨enters_digit, fun c w => digit_any c.toNat w⟩
theorem answers_name1 : Answers 81 (fun c => nameI c.toNat) := ⟨enters_name1, fun c w => name1_any c.toNat w⟩

def HasPost (s : ByteArray) (p : UInt8 → Bool) (w : World) (e : Ending) (w' : World) : Prop := w' = w ∧ e = .returned (.bool (!s.data.toList.all p))

set_option maxHeartbeats 400000 in
theorem containsFunc_any (K b g cap : Nat) (s : ByteArray) (p : UInt8 → Bool) (hs : s.size ≤ 4611686018427387904) (hK : Answers K p) (w : World) (hb : w.cell? ⟨b, 0, none⟩ = some (.func (.func K) #[] #[]))
    (hc : ∀ j, j < s.size → w.cell? ⟨g, j, none⟩ = some (.int .u8 (oct s j).toNat)) :
    Calls Tryz.prog 93 #[.slice (some ⟨g, 0, none⟩) s.size cap, .func (.func 94) #[] #[.pointer (some ⟨b, 0, none⟩)]] w (HasPost s p w) := by
  have H := Lib.hid (indexFunc_any K b g cap s p hs hK w hb hc)
  clear hb hc hK
  go_enter Tryz.func93, Tryz.ntmps93
  go_wp2_with fail
  refine H.out.mono ?_
  rintro e w' ⟨rfl, h⟩
  rcases h with ⟨ha, rfl⟩ | ⟨ha, k, hk, rfl⟩
  · have HA := Lib.hid ha
    clear ha
    go_wp2
    go_ret
    exact ⟨rfl, by rw [HA.out]; rfl⟩
  · have HA := Lib.hid ha
    clear ha
    go_wp2
    go_ret
    exact ⟨rfl, by rw [HA.out]; rfl⟩

/-- A text with an octet, of which each meets p. -/
def everyB (s : ByteArray) (p : UInt8 → Bool) : Bool := !s.data.toList.isEmpty && s.data.toList.all p

theorem kept_bytes (w : World) (e : TypeId) (s : ByteArray) : Kept (fun _ => False) w (Lib.bytesWorld w e s) := by
  refine ⟨?_, ?_, ?_, by rw [Lib.bytesWorld_size]; omega, fun k hk _ => Lib.bytesWorld_at_old w e s k hk⟩ <;> (unfold Lib.bytesWorld World.freeze; split <;> rfl)

theorem every_empty (K : Nat) (s : ByteArray) (hs : s.data.toList = []) (w : World) :
    Calls Tryz.prog 79 #[.string s, .func (.func K) #[] #[]] w fun e w' => e = .returned (.bool false) ∧ Kept (fun _ => False) w w' := by
  have he : (s.toList == []) = true := by simp [ByteArray.toList_eq, hs]
  have he2 : (s.toList.isEmpty) = true := by simp [ByteArray.toList_eq, hs]
  clear hs
  go_enter Tryz.func79, Tryz.ntmps79
  go_wp2
  go_ret
  exact ⟨rfl, (Kept.refl _ _).alloc _⟩

set_option maxRecDepth 100000 in
set_option maxHeartbeats 400000 in
theorem every_some (K : Nat) (p : UInt8 → Bool) (hK : Answers K p) (s : ByteArray) (hn : s.size ≤ 4611686018427387904) (hs : s.data.toList ≠ []) (w : World) :
    Calls Tryz.prog 79 #[.string s, .func (.func K) #[] #[]] w fun e w' => e = .returned (.bool (s.data.toList.all p)) ∧ Kept (fun _ => False) w w' := by
  have he2 : (s.toList.isEmpty) = false := by rw [ByteArray.toList_eq]; simpa using hs
  have HK := Lib.hid hK
  clear hK hs
  have hcv := fun (wx : World) => Lib.run_convert_string_bytes (P := Tryz.prog) wx 9 73 5 s Tryz.underlying9 Tryz.underlying73 Tryz.underlying5
  have hmf : ∀ (fn : Fn) (first cap : Array Value) (wx : World), (Instr.makeFunc fn first cap).run Tryz.prog wx = .ok (.func fn first cap) wx := fun _ _ _ _ => rfl
  go_enter Tryz.func79, Tryz.ntmps79
  go_wp2_with fail
  refine (containsFunc_any K w.heap.size (w.heap.size + 1) _ s p hn HK.out _ ?_ ?_).mono ?_
  · rw [Lib.bytesWorld_old _ _ _ _ (by simp)]; simp
  · intro j hj
    have := Lib.bytesWorld_cell (w.alloc (.cells #[.func (.func K) #[] #[]] 56)) 5 s j hj
    simpa [oct] using this
  · rintro e w' ⟨rfl, rfl⟩
    go_wp2
    go_ret
    refine ⟨by simp, ?_⟩
    have h1 : Kept (fun _ => False) w (w.alloc (.cells #[.func (.func K) #[] #[]] 56)) := (Kept.refl _ _).alloc _
    exact h1.next (kept_bytes _ _ _)

theorem kept_every (K : Nat) (p : UInt8 → Bool) (hK : Answers K p) (s : ByteArray) (hn : s.size ≤ 4611686018427387904) (w : World) :
    Calls Tryz.prog 79 #[.string s, .func (.func K) #[] #[]] w fun e w' => e = .returned (.bool (everyB s p)) ∧ Kept (fun _ => False) w w' := by
  by_cases hs : s.data.toList = []
  · have e : everyB s p = false := by simp [everyB, hs]
    rw [e]
    exact every_empty K s hs w
  · have e : everyB s p = s.data.toList.all p := by simp only [everyB]; cases h : s.data.toList with | nil => exact absurd h hs | cons a l => rfl
    rw [e]
    exact every_some K p hK s hn hs w

def digitsB (s : ByteArray) : Bool := everyB s (fun c => digitI c.toNat)
theorem digits_any (s : ByteArray) (hn : s.size ≤ 4611686018427387904) (w : World) :
    Calls Tryz.prog 65 #[.string s] w fun e w' => e = .returned (.bool (digitsB s)) ∧ Kept (fun _ => False) w w' := by
  have H := Lib.hid (kept_every _ _ answers_digit s hn)
  go_enter Tryz.func65, Tryz.ntmps65
  go_wp2_with fail
  refine (H.out _).mono ?_
  rintro e w' ⟨rfl, hk⟩
  go_wp2
  go_ret
  exact ⟨rfl, hk⟩

/-- Is it a name? -/
def nameB (s : ByteArray) : Bool := decide (s.size ≤ 64) && everyB s (fun c => nameI c.toNat) && !digitI (oct s 0).toNat

theorem every_is (K : Nat) (p : UInt8 → Bool) (hK : Answers K p) (s : ByteArray) (hn : s.size ≤ 4611686018427387904) (b : Bool) (hb : everyB s p = b) (w : World) :
    Calls Tryz.prog 79 #[.string s, .func (.func K) #[] #[]] w fun e w' => e = .returned (.bool b) ∧ Kept (fun _ => False) w w' := by
  subst hb; exact kept_every K p hK s hn w

set_option maxHeartbeats 400000 in
theorem name_any (s : ByteArray) (hn : s.size ≤ 4611686018427387904) (w : World) :
    Calls Tryz.prog 66 #[.string s] w fun e w' => e = .returned (.bool (nameB s)) ∧ Kept (fun _ => False) w w' := by
  by_cases h64 : s.size ≤ 64
  · cases he : everyB s (fun c => nameI c.toNat)
    · have e : nameB s = false := by simp [nameB, he]
      rw [e]
      have H := Lib.hid (every_is _ _ answers_name1 s hn false he)
      clear he e
      go_enter Tryz.func66, Tryz.ntmps66
      go_wp2_with fail
      refine (H.out _).mono ?_
      rintro e w' ⟨rfl, hk⟩
      go_wp2
      go_ret
      exact ⟨rfl, hk⟩
    · have e : nameB s = !digitI (oct s 0).toNat := by simp [nameB, he, h64]
      have h0 : 0 < s.size := by
        have : s.data.toList ≠ [] := by intro h; simp [everyB, h] at he
        have : 0 < s.data.toList.length := List.length_pos_iff.2 this
        simpa using this
      rw [e]
      have H := Lib.hid (every_is _ _ answers_name1 s hn true he)
      clear he e
      have hix := ixAt (s := s) (i := 0) (k := 0) rfl h0
      go_enter Tryz.func66, Tryz.ntmps66
      go_wp2_with fail
      refine (H.out _).mono ?_
      rintro e w' ⟨rfl, hk⟩
      go_wp2_with fail
      refine (digit_any _ _).mono ?_
      rintro e w' ⟨rfl, rfl⟩
      go_wp2
      go_ret
      exact ⟨rfl, hk⟩
  · have e : nameB s = false := by simp [nameB, h64]
    rw [e]
    have hd : decide (s.size ≤ 64) = false := by simpa using h64
    go_enter Tryz.func66, Tryz.ntmps66
    go_wp2
    go_ret
    exact ⟨rfl, Kept.refl _ _⟩

#print axioms name_any
end Go.Proofs.YtfkdeknblbmibaaGreatDoor
