/-
  The law LexHeredocs is walked: it answers true, and of what was there nothing has turned. Condition: a slice of texts lies where the argument says; no text is longer than 2^50.
-/
import Derived.Test.YtfkdeknblbmibaaGreatDoorA30
import Derived.Test.YtfkdeknblbmibaaGreatDoorA25
namespace Go.Proofs.YtfkdeknblbmibaaGreatDoor
open Go.RowKit

theorem linesS_append (l m : List (List UInt8)) : linesS (l ++ m) = linesS l ++ linesS m := by
  induction l with
  | nil => rfl
  | cons w l ih => simp [linesS, ih]

theorem linesS_mem {l : List (List UInt8)} {c : UInt8} (h : c ∈ linesS l) : c = 10 ∨ ∃ w ∈ l, c ∈ w := by
  induction l with
  | nil => simp [linesS] at h
  | cons w l ih =>
    simp only [linesS, List.mem_append, List.mem_cons] at h
    rcases h with h | h | h
    · exact .inr ⟨w, by simp, h⟩
    · exact .inl h
    · rcases ih h with h | ⟨v, hv, hc⟩
      · exact .inl h
      · exact .inr ⟨v, by simp [hv], hc⟩

theorem bodyS_bound {s e : ByteArray} : ∀ (k a : Nat) (b n : Nat), bodyS s e k a = some (b, n) → b ≤ s.size ∧ n ≤ s.size
  | 0, _, _, _, h => by cases h
  | k + 1, a, b, n, h => by
    rw [bodyS] at h
    split at h
    · cases h
    · have h2 : (if s.extract a (a + (if Lib.indexByte (List.drop a s.data.toList) 10 < 0 then s.size - a else (Lib.indexByte (List.drop a s.data.toList) 10).toNat)) = e then some (a, min (a + (if Lib.indexByte (List.drop a s.data.toList) 10 < 0 then s.size - a else (Lib.indexByte (List.drop a s.data.toList) 10).toNat) + 1) s.size) else bodyS s e k (min (a + (if Lib.indexByte (List.drop a s.data.toList) 10 < 0 then s.size - a else (Lib.indexByte (List.drop a s.data.toList) 10).toNat) + 1) s.size)) = some (b, n) := h
      clear h
      have h := h2
      generalize (if Lib.indexByte (List.drop a s.data.toList) 10 < 0 then s.size - a else (Lib.indexByte (List.drop a s.data.toList) 10).toNat) = m at h
      by_cases he : s.extract a (a + m) = e
      · rw [if_pos he] at h
        simp only [Option.some.injEq, Prod.mk.injEq] at h
        omega
      · rw [if_neg he] at h
        exact bodyS_bound k _ b n h

theorem str_eq {a b : ByteArray} : (a.toList == b.toList) = decide (a = b) := by
  rw [Bool.eq_iff_iff, beq_iff_eq, decide_eq_true_eq]
  exact ⟨fun h => data_ext (by rw [← Lib.toList_data, ← Lib.toList_data]; exact h), fun h => by rw [h]⟩

def hasS (l : List ByteArray) (s : ByteArray) : Bool := l.any (fun x => decide (x = s))
theorem hasS_yes {l : List ByteArray} {s : ByteArray} (h : s ∈ l) : hasS l s = true := List.any_eq_true.2 ⟨s, h, by simp⟩
theorem hasS_no {l : List ByteArray} {s : ByteArray} (h : ¬ s ∈ l) : hasS l s = false := by
  cases hb : hasS l s with
  | false => rfl
  | true =>
    obtain ⟨x, hx, he⟩ := List.any_eq_true.1 hb
    rw [decide_eq_true_eq] at he
    exact absurd (he ▸ hx) h
theorem hasS_not {l : List ByteArray} {s : ByteArray} (h : hasS l s = false) : ¬ s ∈ l := fun hm => by rw [hasS_yes hm] at h; cases h

set_option maxRecDepth 100000 in
set_option maxHeartbeats 1000000 in
theorem has_strs (oa : Option Addr) (cap : Nat) (l : List ByteArray) (s : ByteArray) (w : World) (hl : StrsAt w oa l) (hll : l.length ≤ 1152921504606846976) :
    Calls Tryz.prog 17 #[.slice oa l.length cap, .string s] w fun e w' => e = .returned (.bool (hasS l s)) ∧ ∃ n, w' = w.drewN n := by
  have HL := Lib.hid hl
  clear hl
  go_enter Tryz.func17, Tryz.ntmps17
  go_wp2
  go_loopg [5] l.length (fun g s5 wx => ∃ (i : Nat), i + g = l.length ∧ s5 = .int .i64 i ∧ Hid (¬ s ∈ l.take i) ∧ ∃ n, wx = w.drewN n)
  case atStart => exact ⟨0, by omega, rfl, by simp [Hid], 0, rfl⟩
  case round =>
    obtain ⟨i, hig, rfl, HN, n, rfl⟩ := hrel
    cases gk with
    | zero =>
      have hi1 : ¬ (i : Int) < (l.length : Int) := by omega
      have hno := HN.out
      rw [List.take_of_length_le (by omega)] at hno
      have hd := hasS_no hno
      have HD := Lib.hid hd
      clear hno hd
      go_wp2
      go_ret
      rw [HD.out]
      exact ⟨rfl, n, rfl⟩
    | succ gk =>
      have hi1 : (i : Int) < (l.length : Int) := by omega
      obtain ⟨b, o, rfl, hb, hc⟩ := HL.out (by omega)
      obtain ⟨x, hx⟩ : ∃ x, l[i]? = some x := ⟨_, List.getElem?_eq_getElem (by omega)⟩
      have hcx := hc i x hx
      have HX := Lib.hid hx
      clear hc hx
      by_cases heq : x = s
      · have hb1 : (x.toList == s.toList) = true := by rw [str_eq]; simp [heq]
        have hd : hasS l s = true := hasS_yes (by rw [← heq]; exact List.mem_of_getElem? HX.out)
        have HD := Lib.hid hd
        clear heq hd
        go_wp2
        (try simp only [Exit.inBlock, Exit.then])
        go_ret
        rw [HD.out]
        exact ⟨rfl, _, rfl⟩
      · have hb1 : (x.toList == s.toList) = false := by rw [str_eq]; simp [heq]
        have HE := Lib.hid heq
        clear heq
        go_wp2
        go_roundg gk
        all_goals first
        | omega
        | exact ⟨i + 1, by omega, by simp, Lib.hid (by rw [take_snoc HX.out]; simp only [List.mem_append, List.mem_singleton]; exact fun h => h.elim HN.out (fun h => HE.out h.symm)), _, rfl⟩

end Go.Proofs.YtfkdeknblbmibaaGreatDoor
