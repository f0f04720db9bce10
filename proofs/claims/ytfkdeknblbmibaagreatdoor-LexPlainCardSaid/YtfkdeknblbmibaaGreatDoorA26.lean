/-
  cowrieref01.Plain is walked: it answers whether a text is one or more octets that need no quotes.
-/
import Derived.Test.YtfkdeknblbmibaaGreatDoorA25
namespace Go.Proofs.YtfkdeknblbmibaaGreatDoor
open Go.RowKit

/-- letter and digit, as the reference has them. -/
def refLetter (c : UInt8) : Bool := (97 ≤ c.toNat && c.toNat ≤ 122) || (65 ≤ c.toNat && c.toNat ≤ 90) || c.toNat == 95
def refDigit (c : UInt8) : Bool := 48 ≤ c.toNat && c.toNat ≤ 57
/-- -./:,+=@% -/
def marksB : ByteArray := ⟨#[45, 46, 47, 58, 44, 43, 61, 64, 37]⟩
def plainK (c : UInt8) (k : Nat) : Bool := (refLetter c || refDigit c) || (marksB.data.toList.take k).any (· == c)

set_option maxRecDepth 100000 in
theorem plainK_all : ∀ n : Fin 256, plainK (UInt8.ofNat n.val) 9 = plainOct (UInt8.ofNat n.val) := by decide +kernel
theorem plainK_nine (c : UInt8) : plainK c 9 = plainOct c := by
  have := plainK_all ⟨c.toNat, c.toNat_lt⟩
  simpa using this

theorem plainK_succ (c : UInt8) {k : Nat} (hk : k < 9) : plainK c (k + 1) = (plainK c k || oct marksB k == c) := by
  have hl : k < marksB.data.toList.length := hk
  unfold plainK
  rw [List.take_succ_eq_append_getElem hl, List.any_append, ← Bool.or_assoc]
  congr 1
  simp [oct, List.getD_eq_getElem?_getD, List.getElem?_eq_getElem hl]

theorem mark_eq {k : Nat} (hk : k < 9) (c : UInt8) : (((marksB[k]'hk).toNat : Int) == (c.toNat : Int)) = (oct marksB k == c) := by
  have ho : oct marksB k = marksB[k]'hk := getD_byte (s := marksB) hk
  rw [ho, Bool.eq_iff_iff, beq_iff_eq, beq_iff_eq]
  exact ⟨fun h => UInt8.toNat_inj.1 (by omega), fun h => by rw [h]⟩

set_option maxHeartbeats 800000 in
theorem refDigit_any (c : UInt8) (w : World) :
    Calls Tryz.prog 26 #[.int .u8 c.toNat] w fun e w' => e = .returned (.bool (refDigit c)) ∧ w' = w := by
  unfold refDigit
  go_enter Tryz.func26, Tryz.ntmps26
  go_wp2
  all_goals go_ret
  all_goals (refine ⟨congrArg (fun b => Ending.returned (Value.bool b)) ?_, rfl⟩; rw [Bool.eq_iff_iff]; (try simp); try omega)

set_option maxHeartbeats 800000 in
theorem refLetter_any (c : UInt8) (w : World) :
    Calls Tryz.prog 25 #[.int .u8 c.toNat] w fun e w' => e = .returned (.bool (refLetter c)) ∧ w' = w := by
  unfold refLetter
  go_enter Tryz.func25, Tryz.ntmps25
  go_wp2
  all_goals go_ret
  all_goals (refine ⟨congrArg (fun b => Ending.returned (Value.bool b)) ?_, rfl⟩; rw [Bool.eq_iff_iff]; (try simp); try omega)

def AllPlain (s : ByteArray) (i : Nat) : Prop := ∀ j, j < i → plainOct (oct s j) = true
theorem AllPlain.snoc {s : ByteArray} {i : Nat} (h : AllPlain s i) (hp : plainOct (oct s i) = true) : AllPlain s (i + 1) := fun j hj => by
  by_cases e : j = i
  · rw [e]; exact hp
  · exact h j (by omega)
theorem AllPlain.mem {s : ByteArray} (h : AllPlain s s.size) : ∀ c ∈ s.data.toList, plainOct c = true := fun c hc => by
  obtain ⟨j, hj, he⟩ := List.getElem_of_mem hc
  have hj' : j < s.size := by simpa using hj
  have := h j hj'
  unfold oct at this
  rwa [List.getD_eq_getElem?_getD, List.getElem?_eq_getElem hj, Option.getD_some, he] at this

/-- What Plain answers. -/
def plainB (s : ByteArray) : Bool := decide (0 < s.size) && s.data.toList.all plainOct
theorem plainB_all {s : ByteArray} (h : AllPlain s s.size) : plainB s = decide (0 < s.size) := by
  unfold plainB
  rw [List.all_eq_true.2 h.mem, Bool.and_true]
theorem plainB_no {s : ByteArray} {i : Nat} (hi : i < s.size) (h : plainOct (oct s i) = false) : plainB s = false := by
  have hi' : i < s.data.toList.length := by simpa using hi
  have ho : oct s i = s.data.toList[i] := by unfold oct; simp [List.getD_eq_getElem?_getD, List.getElem?_eq_getElem hi']
  unfold plainB
  rw [show s.data.toList.all plainOct = false from List.all_eq_false.2 ⟨_, List.getElem_mem hi', by rw [← ho, h]; simp⟩, Bool.and_false]
theorem plainB_yes {s : ByteArray} (h : plainB s = true) : s.data.toList ≠ [] ∧ ∀ c ∈ s.data.toList, plainOct c = true := by
  unfold plainB at h
  rw [Bool.and_eq_true, decide_eq_true_eq] at h
  refine ⟨fun e => ?_, List.all_eq_true.1 h.2⟩
  have h2 : s.data.toList.length = 0 := by rw [e]; rfl
  have h3 : s.size = 0 := by rw [← h2]; simp
  omega

set_option maxRecDepth 100000 in
set_option maxHeartbeats 4000000 in
theorem refPlain_any (s : ByteArray) (w : World) (hs : s.size ≤ 1125899906842624) :
    Calls Tryz.prog 13 #[.string s] w fun e w' => e = .returned (.bool (plainB s)) ∧ ∃ n, w' = w.drewN n := by
  go_enter Tryz.func13, Tryz.ntmps13
  go_wp2
  go_loopg [4] s.size (fun g s4 wx => ∃ (i : Nat), i + g = s.size ∧ s4 = .int .i64 i ∧ Hid (AllPlain s i) ∧ ∃ n, wx = w.drewN n)
  case atStart => exact ⟨0, by omega, rfl, fun j hj => absurd hj (by omega), 0, rfl⟩
  case round =>
    obtain ⟨i, hig, rfl, HN, n, rfl⟩ := hrel
    cases gk with
    | zero =>
      have hi1 : ¬ (i : Int) < (s.size : Int) := by omega
      have hi2 : i = s.size := by omega
      have hall := HN.out
      rw [hi2] at hall
      have HA := Lib.hid hall
      clear hall
      go_wp2
      go_ret
      exact ⟨by rw [plainB_all HA.out]; rfl, n, rfl⟩
    | succ gk =>
      have hi1 : (i : Int) < (s.size : Int) := by omega
      have hix := ixAt (s := s) (i := (i : Int)) (k := i) rfl (by omega)
      obtain ⟨c, hcc⟩ : ∃ c, c = oct s i := ⟨_, rfl⟩
      rw [← hcc] at hix
      have HCC := Lib.hid hcc
      clear hcc
      have e0 : plainK c 0 = (refLetter c || refDigit c) := by simp [plainK]
      have E0 := Lib.hid e0
      clear e0
      go_wp2_with fail
      refine (refLetter_any c _).mono ?_
      rintro e w1 ⟨rfl, rfl⟩
      cases hl : refLetter c
      case' false =>
        go_wp2_with fail
        refine (refDigit_any c _).mono ?_
        rintro e w1 ⟨rfl, rfl⟩
        have hst : (.bool (refDigit c) : Value) = .bool (plainK c 0) := by rw [E0.out, hl]; rfl
        have HST := Lib.hid hst
        clear hl hst
        go_wp2
      case' true =>
        have hst : (.bool true : Value) = .bool (plainK c 0) := by rw [E0.out, hl]; rfl
        have HST := Lib.hid hst
        clear hl hst
        go_wp2
      all_goals
        go_loopg [5, 6] 9 (fun g s5 s6 wx => ∃ (k : Nat), k + g = 9 ∧ s6 = .int .i64 k ∧ s5 = .bool (plainK c k) ∧ ∃ n, wx = w.drewN n)
        case atStart => exact ⟨0, by omega, rfl, HST.out, _, rfl⟩
        case round =>
          obtain ⟨k, hkg, rfl, rfl, n2, rfl⟩ := hrel
          cases gk with
          | zero =>
            have hk9 : k = 9 := by omega
            subst hk9
            have hnine := plainK_nine c
            cases hpo : plainOct c with
            | true =>
              rw [hpo] at hnine
              rw [hnine]
              have HPO := Lib.hid hpo
              clear hpo hnine
              go_wp2
              go_roundg gk
              all_goals first
              | omega
              | exact ⟨i + 1, by omega, by simp, Lib.hid (HN.out.snoc (by rw [← HCC.out]; exact HPO.out)), _, rfl⟩
            | false =>
              rw [hpo] at hnine
              rw [hnine]
              have hb := plainB_no (s := s) (i := i) (by omega) (by rw [← HCC.out]; exact hpo)
              have HB := Lib.hid hb
              clear hpo hnine hb
              go_wp2
              (try simp only [Exit.inBlock, Exit.then])
              go_ret
              exact ⟨by rw [HB.out]; rfl, _, rfl⟩
          | succ gk2 =>
            have hk1 : (k : Int) < 9 := by omega
            have hk2 : k < 9 := by omega
            have hsu := plainK_succ c hk2
            have HSU := Lib.hid hsu
            have him := ixAt (s := marksB) (i := (k : Int)) (k := k) rfl hk2
            obtain ⟨d, hd⟩ : ∃ d, d = oct marksB k := ⟨_, rfl⟩
            rw [← hd] at him
            have HD := Lib.hid hd
            clear hsu hd
            clear him
            cases hok : plainK c k with
            | true =>
              go_wp2
              go_quiet (fail)
              go_wp2
              go_roundg gk2
              all_goals first
              | omega
              | exact ⟨k + 1, by omega, by simp, by rw [HSU.out, hok]; rfl, _, rfl⟩
            | false =>
              go_wp2
              go_quiet (fail)
              go_wp2
              go_roundg gk2
              all_goals first
              | omega
              | exact ⟨k + 1, by omega, by simp, by rw [HSU.out, hok, Bool.false_or]; exact congrArg Value.bool (mark_eq hk2 c), _, rfl⟩

end Go.Proofs.YtfkdeknblbmibaaGreatDoor
