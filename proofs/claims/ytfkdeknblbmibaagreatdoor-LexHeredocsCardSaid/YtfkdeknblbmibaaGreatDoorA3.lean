/-
  lex: the scan's name is walked: it answers 'nameR' and goes on behind the name.
-/
import Derived.Test.YtfkdeknblbmibaaGreatDoorA2
import Derived.Deep.DeepCutAuto
import Derived.Deep.CutBlock
namespace Go.Proofs.YtfkdeknblbmibaaGreatDoor
open Go.RowKit

/-! ### lex: names -/

/-- How many octets of a name stand from a place on. -/
def nameRun (s : ByteArray) (a : Nat) : Nat := ((s.data.toList.drop a).takeWhile (fun c => isNameI c.toNat)).length
def digitRun (s : ByteArray) : Nat := (s.data.toList.takeWhile (fun c => digitI c.toNat)).length
/-- "@*#?" -/
def specialsB : ByteArray := ⟨#[64, 42, 35, 63]⟩
def specialI (c : UInt8) : Bool := !(c.toNat == 0) && decide (0 ≤ Lib.indexByte specialsB.data.toList c)

/-- How long the name is that stands at a place; none: there is none. -/
def nameR (s : ByteArray) (a : Nat) (whole : Bool) : Option Nat :=
  if specialI (oct s a) = true then some 1
  else if nameRun s a ≠ 0 ∧ digitI (oct s a).toNat = true then some (if whole = true then max (digitRun (s.extract a (a + nameRun s a))) 1 else 1)
  else if nameB (s.extract a (a + nameRun s a)) = true then some (nameRun s a) else none

theorem takeWhile_at {p : UInt8 → Bool} : ∀ (l : List UInt8) (k : Nat), k ≤ (l.takeWhile p).length → (p (l.getD k 0) = true → k < l.length → k + 1 ≤ (l.takeWhile p).length) ∧ (p (l.getD k 0) = false ∨ l.length ≤ k → k = (l.takeWhile p).length)
  | [], k, h => by simp at h; subst h; simp
  | c :: l, k, h => by
    cases hp : p c
    · simp [hp] at h ⊢
      subst h
      simp [hp]
    · simp [hp] at h ⊢
      cases k with
      | zero => simp [hp]
      | succ k =>
        have := takeWhile_at (p := p) l k (by omega)
        simp at this ⊢
        exact this

theorem drop_getD (l : List UInt8) (a k : Nat) : (l.drop a).getD k 0 = l.getD (a + k) 0 := by
  simp [List.getD_eq_getElem?_getD, List.getElem?_drop]

theorem nameRun_le (s : ByteArray) (a : Nat) : nameRun s a ≤ s.size - a := by
  unfold nameRun
  have := (List.takeWhile_prefix (fun c : UInt8 => isNameI c.toNat) (l := s.data.toList.drop a)).length_le
  simpa using this

theorem nameRun_more {s : ByteArray} {a k : Nat} (hk : k ≤ nameRun s a) (h : isNameI (oct s (a + k)).toNat = true) : k + 1 ≤ nameRun s a := by
  have h1 := (takeWhile_at (p := fun c => isNameI c.toNat) (s.data.toList.drop a) k hk).1
  rw [drop_getD] at h1
  refine h1 h ?_
  by_cases hl : k < (s.data.toList.drop a).length
  · exact hl
  · exfalso
    have : s.size ≤ a + k := by simp at hl; have : s.data.size = s.size := rfl; omega
    rw [oct_out this] at h
    revert h
    decide +kernel

theorem nameRun_done {s : ByteArray} {a k : Nat} (hk : k ≤ nameRun s a) (h : isNameI (oct s (a + k)).toNat = false) : k = nameRun s a := by
  have h1 := (takeWhile_at (p := fun c => isNameI c.toNat) (s.data.toList.drop a) k hk).2
  rw [drop_getD] at h1
  exact h1 (.inl h)

theorem isName_is (c : Int) (b : Bool) (h : isNameI c = b) (w : World) :
    Calls Tryz.prog 64 #[.int .u8 c] w fun e w' => e = .returned (.bool b) ∧ w' = w := by subst h; exact isName_any c w

theorem byte_all {P : UInt8 → Prop} (h : ∀ n : Fin 256, P (UInt8.ofNat n.val)) (c : UInt8) : P c := by
  have := h ⟨c.toNat, c.toNat_lt⟩
  simpa using this

/-- A rune of an octet below 128, as a text. -/
theorem rune_text (c : UInt8) (h : c.toNat < 128) (w : World) : (convert 21 9 (.int .i32 c.toNat)).run Tryz.prog w = .ok (.string ⟨#[c]⟩) w := by
  rw [run_convert_int_string w 21 9 .i32 _ (by rw [Tryz.underlying21]; rfl) Tryz.underlying9]
  have hv : Utf8.valid ((c.toNat : Nat) : Int) = true := by
    rw [validRune_eq]
    revert h
    revert c
    exact byte_all (P := fun c => c.toNat < 128 → validRune ((c.toNat : Nat) : Int) = true) (by decide +kernel)
  have : Utf8.encode ((c.toNat : Nat) : Int) = ⟨#[c]⟩ := by
    unfold Utf8.encode
    simp only [hv, if_true, Int.toNat_natCast]
    rw [if_pos (by omega)]
    simp
  rw [this]

theorem special_of (c : UInt8) (h : specialI c = true) : 0 < c.toNat ∧ c.toNat < 128 ∧ decide (0 ≤ Lib.indexByte specialsB.data.toList c) = true := by
  revert h
  exact @byte_all (fun c => specialI c = true → 0 < c.toNat ∧ c.toNat < 128 ∧ decide (0 ≤ Lib.indexByte specialsB.data.toList c) = true) (by decide +kernel) c

set_option maxRecDepth 100000 in
set_option maxHeartbeats 1000000 in
theorem name_special (xb : Nat) (s : ByteArray) (a : Nat) (whole bash : Bool) (deep : Int) (w : World) (hs : s.size ≤ 4611686018427387904) (ha : a < s.size) (hx : ScanAt w xb s a bash deep)
    (hsp : specialI (oct s a) = true) :
    Calls Tryz.prog 52 #[.pointer (some ⟨xb, 0, none⟩), .bool whole] w fun e w' => e = .returned (.tuple #[.string ⟨#[oct s a]⟩, .bool true]) ∧ ScanAt w' xb s (a + 1) bash deep ∧ Kept (fun k => k = xb) w w' := by
  have c1 := hx.c1
  have f1 := hx.f 1
  obtain ⟨h1, hc, h2⟩ := special_of _ hsp
  have hr := rune_text (oct s a) hc
  have hp := peek_any xb s a 0 bash deep w hs (by omega) hx
  have HP := Lib.hid hp
  have H2 := Lib.hid h2
  clear hp hsp h2
  go_enter Tryz.func52, Tryz.ntmps52
  go_wp2_with fail
  refine HP.out.mono ?_
  rintro e w1 ⟨rfl, m, rfl⟩
  go_wp2_with fail
  refine (Tryz.strings_IndexByte _ _ _).mono ?_
  rintro e w1 ⟨rfl, rfl⟩
  have h3 : decide (0 ≤ Lib.indexByte [64, 42, 35, 63] (oct s a)) = true := H2.out
  go_wp2
  go_ret2
  refine ⟨rfl, ?_, ((Kept.refl _ _).drewN m).setCell _ _ (fun _ => rfl)⟩
  have := (hx.drewN m).set1 (a + 1)
  simpa using this

theorem slAt {s : ByteArray} {i j : Int} {a b : Nat} (hi : i = (a : Int)) (hj : j = (b : Int)) (hab : a ≤ b) (hb : b ≤ s.size) (wx : World) :
    (Instr.slice 9 (.string s) (some (.int .i64 i)) (some (.int .i64 j)) none).run Tryz.prog wx = .ok (.string (s.extract a b)) wx := by
  subst hi
  subst hj
  rw [run_slice_string (P := Tryz.prog) (w := wx) 9 s .i64 .i64 (a : Int) (b : Int) Tryz.underlying9 (by omega) (by omega) (by omega)]
  rfl

theorem slTo {s : ByteArray} {j : Int} {b : Nat} (hj : j = (b : Int)) (hb : b ≤ s.size) (wx : World) :
    (Instr.slice 9 (.string s) none (some (.int .i64 j)) none).run Tryz.prog wx = .ok (.string (s.extract 0 b)) wx := by
  subst hj
  rw [run_slice_string_to_if (P := Tryz.prog) (w := wx) 9 s .i64 (b : Int) Tryz.underlying9, if_pos ⟨by omega, by omega⟩]
  rfl
theorem slFrom {s : ByteArray} {i : Int} {a : Nat} (hi : i = (a : Int)) (ha : a ≤ s.size) (wx : World) :
    (Instr.slice 9 (.string s) (some (.int .i64 i)) none none).run Tryz.prog wx = .ok (.string (s.extract a s.size)) wx := by
  subst hi
  rw [run_slice_string_from_if (P := Tryz.prog) (w := wx) 9 s .i64 (a : Int) Tryz.underlying9, if_pos ⟨by omega, by omega⟩]
  rfl

theorem size_extract {s : ByteArray} {a b : Nat} (hb : b ≤ s.size) : (s.extract a b).size = b - a := by
  rw [ByteArray.size_extract, Nat.min_eq_left hb]

theorem oct_extract {s : ByteArray} {a b k : Nat} (hk : a + k < b) : oct (s.extract a b) k = oct s (a + k) := by
  unfold oct
  rw [Lib.extract_data]
  simp only [List.getD_eq_getElem?_getD, List.getElem?_take, List.getElem?_drop]
  rw [if_pos (by omega)]

/-- What 'name' answers. -/
def NamePost (xb : Nat) (s : ByteArray) (a : Nat) (bash : Bool) (deep : Int) (w : World) (r : Option Nat) (e : Ending) (w' : World) : Prop :=
  match r with
  | none => e = .returned (.tuple #[.string ⟨#[]⟩, .bool false]) ∧ Kept (fun _ => False) w w'
  | some n => e = .returned (.tuple #[.string (s.extract a (a + n)), .bool true]) ∧ ScanAt w' xb s (a + n) bash deep ∧ Kept (fun k => k = xb) w w'

theorem digitRun_le (W : ByteArray) : digitRun W ≤ W.size := by
  unfold digitRun
  have := (List.takeWhile_prefix (fun c : UInt8 => digitI c.toNat) (l := W.data.toList)).length_le
  simpa using this

/-- The digits of the first octets. -/
theorem digits_take {W : ByteArray} {k : Nat} (h0 : 0 < W.size) (hk : k ≤ digitRun W) : digitsB (W.extract 0 (min (k + 1) W.size)) = (decide (k + 1 ≤ digitRun W) || decide (W.size ≤ k)) := by
  have hle := digitRun_le W
  have hall : ∀ (l : List UInt8) (p : UInt8 → Bool) (j : Nat), j ≤ l.length → ((l.take j).all p = true ↔ j ≤ (l.takeWhile p).length) := by
    intro l p
    induction l with
    | nil => intro j hj; simp at hj; subst hj; simp
    | cons c l ih =>
      intro j hj
      cases j with
      | zero => simp
      | succ j =>
        cases hp : p c
        · simp [hp]
        · simp [hp]
          simpa using ih j (by simpa using hj)
  have hd : (W.extract 0 (min (k + 1) W.size)).data.toList = W.data.toList.take (min (k + 1) W.size) := by
    rw [Lib.extract_data]; simp
  unfold digitsB everyB
  rw [hd]
  have hne : (W.data.toList.take (min (k + 1) W.size)).isEmpty = false := by
    rw [List.isEmpty_eq_false_iff]
    intro h
    have e := congrArg List.length h
    rw [List.length_take] at e
    simp only [List.length_nil, Array.length_toList] at e
    have e2 : W.size = W.data.size := rfl
    omega
  rw [hne]
  simp only [Bool.not_false, Bool.true_and]
  rw [Bool.eq_iff_iff, hall _ _ _ (by simp; omega)]
  simp
  unfold digitRun at *
  have : W.size = W.data.size := rfl
  omega

theorem digits_is (s : ByteArray) (hn : s.size ≤ 4611686018427387904) (b : Bool) (hb : digitsB s = b) (w : World) :
    Calls Tryz.prog 65 #[.string s] w fun e w' => e = .returned (.bool b) ∧ Kept (fun _ => False) w w' := by subst hb; exact digits_any s hn w
theorem name_is (s : ByteArray) (hn : s.size ≤ 4611686018427387904) (b : Bool) (hb : nameB s = b) (w : World) :
    Calls Tryz.prog 66 #[.string s] w fun e w' => e = .returned (.bool b) ∧ Kept (fun _ => False) w w' := by subst hb; exact name_any s hn w

set_option maxRecDepth 100000 in
set_option maxHeartbeats 1000000 in
/-- No special one stands there. -/
theorem name_rest (xb : Nat) (s : ByteArray) (a : Nat) (whole bash : Bool) (deep : Int) (w : World) (hs : s.size ≤ 4611686018427387904) (ha : a ≤ s.size) (hx : ScanAt w xb s a bash deep)
    (hsp : specialI (oct s a) = false) :
    Calls Tryz.prog 52 #[.pointer (some ⟨xb, 0, none⟩), .bool whole] w (NamePost xb s a bash deep w (nameR s a whole)) := by
  obtain ⟨r, hr⟩ : ∃ r, r = nameR s a whole := ⟨_, rfl⟩
  rw [← hr]
  unfold nameR at hr
  simp only [hsp, Bool.false_eq_true, if_false] at hr
  have hle := nameRun_le s a
  have HX := Lib.hid hx
  obtain ⟨N, hN⟩ : ∃ N, N = nameRun s a := ⟨_, rfl⟩
  obtain ⟨W, hW⟩ : ∃ W, W = s.extract a (a + N) := ⟨_, rfl⟩
  rw [← hN, ← hW] at hr
  have hwa := wrap_add (show a + N ≤ 9223372036854775807 by omega)
  have hsl := slAt (s := s) (i := (a : Int)) (j := (a : Int) + N) (a := a) (b := a + N) rfl (by omega) (by omega) (by omega)
  rw [← hW] at hsl
  have hWs : W.size = N := by rw [hW, size_extract (by omega)]; omega
  have hp := fun (n m : Nat) (h : a + n ≤ 9223372036854775807) => peek_any xb s a n bash deep (w.drewN m) hs h (hx.drewN m)
  have c0 := hx.c0
  have c1 := hx.c1
  have HP := Lib.hid hp
  have HN := Lib.hid hN
  have HR := Lib.hid hr
  have HW := Lib.hid hW
  have HWS := Lib.hid hWs
  rw [← hN] at hle
  have HSP : Hid ((oct s a).toNat = 0 ∨ ¬ (oct s a).toNat = 0 ∧ decide (0 ≤ Lib.indexByte [64, 42, 35, 63] (oct s a)) = false) := by
    unfold Hid
    unfold specialI at hsp
    by_cases h : (oct s a).toNat = 0
    · exact .inl h
    · refine .inr ⟨h, ?_⟩
      simp only [beq_eq_false_iff_ne.2 h, specialsB, Bool.not_false, Bool.true_and] at hsp
      exact hsp
  clear hp hsp hN hx hW hWs hr
  go_enter Tryz.func52, Tryz.ntmps52
  go_wp2_with fail
  refine (HP.out 0 0 (by omega)).mono ?_
  rintro e w1 ⟨rfl, m, rfl⟩
  rw [Nat.add_zero]
  go_upto_region 2 with fail
  go_cut [6, 17] (fun _ t wx => t = .bool false ∧ ∃ m, wx = w.drewN m)
  case first =>
    rcases HSP.out with h0 | ⟨h0, h1⟩
    · go_wp2
      go_meet
      exact ⟨rfl, m, rfl⟩
    · have h0' : 0 < (oct s a).toNat := by omega
      clear h0
      go_wp2_with fail
      refine (Tryz.strings_IndexByte _ _ _).mono ?_
      rintro e w1 ⟨rfl, rfl⟩
      go_wp2
      go_meet
      exact ⟨rfl, m, rfl⟩
  case rest =>
    obtain ⟨rfl, m, rfl⟩ := hcut
    go_wp2_with fail
    go_loopw [7] (fun n wr => ∃ k m : Nat, k ≤ N ∧ n = .int .i64 k ∧ wr = w.drewN m) (fun n _ => N - (intOf n).toNat)
    case atStart => exact ⟨0, _, Nat.zero_le _, rfl, rfl⟩
    case round =>
      obtain ⟨k, m, hk, rfl, rfl⟩ := hrel
      cases hq : isNameI (oct s (a + k)).toNat
      · have hkN := nameRun_done (HN.out ▸ hk) hq
        rw [← HN.out] at hkN
        obtain rfl : N = k := hkN.symm
        have HQ := Lib.hid hq
        clear hq
        go_wp2_with fail
        refine (HP.out N m (by omega)).mono ?_
        rintro e w1 ⟨rfl, m, rfl⟩
        go_wp2_with fail
        refine (isName_is _ false HQ.out _).mono ?_
        rintro e w1 ⟨rfl, rfl⟩
        go_wp2_with fail
        go_quiet (fail)
        go_upto_block 2 with fail
        go_cut [4, 5, 7, 8] (fun _ _ n _ wx => ∃ k : Nat, k ≤ N ∧ n = .int .i64 k ∧ r = some k ∧ Kept (fun _ => False) w wx)
        case first =>
          have hWS' : W.size ≤ 4611686018427387904 := by have := HWS.out; omega
          by_cases h0 : N = 0
          · have hWn : W.data.toList = [] := by
              have e := HWS.out
              rw [h0] at e
              exact List.eq_nil_of_length_eq_zero (by rw [Array.length_toList]; exact e)
            have hWe : W.toList.isEmpty = true := by rw [ByteArray.toList_eq, hWn]; rfl
            have hnb : nameB W = false := by simp [nameB, everyB, hWn]
            have hrk : r = none := by rw [HR.out, if_neg (by rw [h0]; simp), if_neg (by rw [hnb]; simp)]
            have HNB := Lib.hid hnb
            have HRK := Lib.hid hrk
            clear hWn hnb hrk h0
            go_wp2_with fail
            refine (name_is W hWS' false HNB.out _).mono ?_
            rintro e w1 ⟨rfl, hkk⟩
            have HKK := Lib.hid hkk
            clear hkk
            go_wp2
            go_ret2
            rw [HRK.out]
            exact ⟨rfl, ((Kept.refl _ _).drewN _).next HKK.out⟩
          · have hWe : W.toList.isEmpty = false := by
              rw [ByteArray.toList_eq, List.isEmpty_eq_false_iff]
              intro h
              have e := congrArg List.length h
              rw [Array.length_toList, List.length_nil] at e
              have e2 : W.size = W.data.size := rfl
              have := HWS.out
              omega
            have hix := ixAt (s := W) (i := 0) (k := 0) rfl (by have := HWS.out; omega)
            have hoc : oct W 0 = oct s a := by rw [HW.out, oct_extract (by omega)]; rfl
            rw [hoc] at hix
            clear hoc
            have hne : N ≠ 0 := h0
            cases hd : digitI (oct s a).toNat
            · have hb : ((oct s a).toNat : Int) < 48 ∨ (48 : Int) ≤ ((oct s a).toNat : Int) ∧ 57 < ((oct s a).toNat : Int) := by
                have : ¬ ((48 : Int) ≤ ((oct s a).toNat : Int) ∧ ((oct s a).toNat : Int) ≤ 57) := by
                  intro h
                  have : digitI (oct s a).toNat = true := by simp only [digitI, decide_eq_true h.1, decide_eq_true h.2, Bool.and_self]
                  rw [this] at hd
                  cases hd
                omega
              cases hnb : nameB W
              · have hrk : r = none := by rw [HR.out, if_neg (by rw [hd]; simp), if_neg (by rw [hnb]; simp)]
                have HNB := Lib.hid hnb
                have HRK := Lib.hid hrk
                clear hnb hrk h0 hne hd
                rcases hb with hb1 | ⟨hb1, hb2⟩
                all_goals
                  go_wp2_with fail
                  refine (name_is W hWS' false HNB.out _).mono ?_
                  rintro e w1 ⟨rfl, hkk⟩
                  have HKK := Lib.hid hkk
                  clear hkk
                  go_wp2
                  go_ret2
                  rw [HRK.out]
                  exact ⟨rfl, ((Kept.refl _ _).drewN _).next HKK.out⟩
              · have hrk : r = some N := by rw [HR.out, if_neg (by rw [hd]; simp), if_pos hnb]
                have HNB := Lib.hid hnb
                have HRK := Lib.hid hrk
                clear hnb hrk h0 hne hd
                rcases hb with hb1 | ⟨hb1, hb2⟩
                all_goals
                  go_wp2_with fail
                  refine (name_is W hWS' true HNB.out _).mono ?_
                  rintro e w1 ⟨rfl, hkk⟩
                  have HKK := Lib.hid hkk
                  clear hkk
                  go_wp2
                  go_meet
                  exact ⟨N, Nat.le_refl _, rfl, HRK.out, ((Kept.refl _ _).drewN _).next HKK.out⟩
            · have hb : (48 : Int) ≤ ((oct s a).toNat : Int) ∧ ((oct s a).toNat : Int) ≤ 57 := by simpa [digitI] using hd
              obtain ⟨hb1, hb2⟩ := hb
              cases whole
              · have hrk : r = some 1 := by rw [HR.out, if_pos ⟨hne, hd⟩]; rfl
                have HRK := Lib.hid hrk
                have h1N : 1 ≤ N := by omega
                clear hrk hd h0 hne
                go_wp2
                go_loop [7] (fun n => n = .int .i64 0) (fun _ => 0)
                case atStart => rfl
                case round =>
                  obtain rfl := hrel
                  go_wp2
                  go_meet
                  exact ⟨1, h1N, rfl, HRK.out, (Kept.refl _ _).drewN _⟩
              · have hrk : r = some (max (digitRun W) 1) := by rw [HR.out, if_pos ⟨hne, hd⟩]; rfl
                have HRK := Lib.hid hrk
                have h1N : max (digitRun W) 1 ≤ N := by have := digitRun_le W; have := HWS.out; omega
                have hW0 : 0 < W.size := by have := HWS.out; omega
                have hDR := digitRun_le W
                have HDT := Lib.hid (fun k hk => digits_take (W := W) (k := k) hW0 hk)
                clear hrk hd h0 hne
                go_wp2
                go_loopw [7] (fun n wr => ∃ k : Nat, k ≤ digitRun W ∧ n = .int .i64 k ∧ Kept (fun _ => False) w wr) (fun n _ => W.size - (intOf n).toNat)
                case atStart => exact ⟨0, Nat.zero_le _, rfl, (Kept.refl _ _).drewN _⟩
                case round =>
                  obtain ⟨k, hk, rfl, hkr⟩ := hrel
                  have HKR := Lib.hid hkr
                  clear hkr
                  have hmn : min ((k : Int) + 1) (W.size : Int) = ((min (k + 1) W.size : Nat) : Int) := by omega
                  have hsl3 := slTo (s := W) (j := min ((k : Int) + 1) (W.size : Int)) (b := min (k + 1) W.size) hmn (Nat.min_le_right _ _)
                  clear hmn
                  have hd8 := digits_is (W.extract 0 (min (k + 1) W.size)) (by rw [size_extract (Nat.min_le_right _ _)]; omega)
                  have hdt := HDT.out k hk
                  by_cases hA : k + 1 ≤ digitRun W
                  · have HB := Lib.hid (hdt.trans (by rw [decide_eq_true hA]; rfl) : digitsB (W.extract 0 (min (k + 1) W.size)) = true)
                    have hkW : (k : Int) < W.size := by omega
                    clear hdt
                    have H8 := Lib.hid hd8
                    clear hd8
                    go_wp2_with fail
                    refine (H8.out true HB.out _).mono ?_
                    rintro e w1 ⟨rfl, hkk⟩
                    have HKK := Lib.hid hkk
                    clear hkk
                    go_wp2
                    go_roundw
                    case rel => exact ⟨k + 1, hA, by go_num, HKR.out.next HKK.out⟩
                    case measure => simp [intOf]; omega
                  · have hkd : max (digitRun W) 1 = max k 1 := by omega
                    rw [hkd] at h1N
                    have hrk : r = some (max k 1) := by rw [HRK.out, hkd]
                    have HRK2 := Lib.hid hrk
                    have hmx : max (k : Int) 1 = ((max k 1 : Nat) : Int) := by omega
                    have HMX := Lib.hid hmx
                    clear hrk hkd hmx
                    by_cases hB : k < W.size
                    · have HB := Lib.hid (hdt.trans (by rw [decide_eq_false hA, decide_eq_false (by omega)]; rfl) : digitsB (W.extract 0 (min (k + 1) W.size)) = false)
                      clear hdt
                      have H8 := Lib.hid hd8
                      clear hd8
                      go_wp2_with fail
                      refine (H8.out false HB.out _).mono ?_
                      rintro e w1 ⟨rfl, hkk⟩
                      have HKK := Lib.hid hkk
                      clear hkk
                      go_wp2
                      go_meet
                      exact ⟨max k 1, h1N, by rw [← HMX.out], HRK2.out, HKR.out.next HKK.out⟩
                    · have HB := Lib.hid (hdt.trans (by rw [decide_eq_true (show W.size ≤ k by omega)]; simp) : digitsB (W.extract 0 (min (k + 1) W.size)) = true)
                      have hkW : decide (k < W.size) = false := decide_eq_false hB
                      clear hdt
                      have H8 := Lib.hid hd8
                      clear hd8
                      go_wp2_with fail
                      refine (H8.out true HB.out _).mono ?_
                      rintro e w1 ⟨rfl, hkk⟩
                      have HKK := Lib.hid hkk
                      clear hkk
                      go_wp2
                      go_meet
                      exact ⟨max k 1, h1N, by rw [← HMX.out], HRK2.out, HKR.out.next HKK.out⟩
        case rest =>
          obtain ⟨k', hk', rfl, hrk, hkept⟩ := hcut
          have HRK := Lib.hid hrk
          have HKE := Lib.hid hkept
          have hx2 := HX.out.kept hkept (fun f => f)
          have d0 := hx2.c0
          have d1 := hx2.c1
          have e1 := hx2.f 1
          have HX2 := Lib.hid hx2
          have hwa2 := wrap_add (show a + k' ≤ 9223372036854775807 by omega)
          have hsl2 := slAt (s := s) (i := (a : Int)) (j := (a : Int) + k') (a := a) (b := a + k') rfl (by omega) (by omega) (by omega)
          clear hrk hkept hx2
          go_wp2
          go_quiet (fail)
          go_wp2
          go_ret2
          rw [HRK.out]
          refine ⟨rfl, ?_, ?_⟩
          · have := (HX2.out.drewN nq).set1 (a + k')
            simpa using this
          · exact ((HKE.out.mono (fun _ _ f => f.elim)).drewN nq).setCell _ _ (fun _ => rfl)
      · have hkN := nameRun_more (HN.out ▸ hk) hq
        rw [← HN.out] at hkN
        have HQ := Lib.hid hq
        clear hq
        go_wp2_with fail
        refine (HP.out k m (by omega)).mono ?_
        rintro e w1 ⟨rfl, m, rfl⟩
        go_wp2_with fail
        refine (isName_is _ true HQ.out _).mono ?_
        rintro e w1 ⟨rfl, rfl⟩
        go_wp2
        go_roundw
        case rel => exact ⟨k + 1, _, by omega, by go_num, rfl⟩
        case measure => simp [intOf]; omega

/-- 'name', whatever stands there. -/
theorem scan_name (xb : Nat) (s : ByteArray) (a : Nat) (whole bash : Bool) (deep : Int) (w : World) (hs : s.size ≤ 4611686018427387904) (ha : a ≤ s.size) (hx : ScanAt w xb s a bash deep) :
    Calls Tryz.prog 52 #[.pointer (some ⟨xb, 0, none⟩), .bool whole] w (NamePost xb s a bash deep w (nameR s a whole)) := by
  cases h : specialI (oct s a)
  · exact name_rest xb s a whole bash deep w hs ha hx h
  · have hlt : a < s.size := by
      rcases Nat.lt_or_ge a s.size with h' | h'
      · exact h'
      · rw [oct_out h', show specialI 0 = false from by decide +kernel] at h
        cases h
    have e : nameR s a whole = some 1 := by simp [nameR, h]
    have e2 : s.extract a (a + 1) = ⟨#[oct s a]⟩ := by
      apply ByteArray.ext
      apply Array.ext'
      have := Lib.extract_data s a (a + 1)
      rw [this]
      unfold oct
      have hl : a < s.data.toList.length := by simpa using hlt
      rw [List.getD_eq_getElem?_getD, List.getElem?_eq_getElem hl]
      rw [show a + 1 - a = 1 from by omega, List.take_one, List.head?_drop, List.getElem?_eq_getElem hl]
      rfl
    rw [e]
    refine (name_special xb s a whole bash deep w hs hlt hx h).mono fun e w' ⟨h1, h2, h3⟩ => ⟨?_, h2, h3⟩
    rw [h1, e2]

#print axioms scan_name
end Go.Proofs.YtfkdeknblbmibaaGreatDoor
