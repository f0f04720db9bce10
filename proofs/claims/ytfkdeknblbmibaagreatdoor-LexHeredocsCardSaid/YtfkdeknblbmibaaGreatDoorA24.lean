/-
  lex: Text, Literal and Quoted are walked: each answers its Lean twin over the parts of the word. Condition: the word's parts lie in memory as they read, and their texts have at most 2^60 octets together.
-/
import Derived.Test.YtfkdeknblbmibaaGreatDoorA23
namespace Go.Proofs.YtfkdeknblbmibaaGreatDoor
open Go.RowKit

/-- The texts of a word, together. -/
def textS (l : List Pt) : ByteArray := l.foldl (fun a p => if p.kind = 1 then a ++ p.text else a) ⟨#[]⟩
def literalB (l : List Pt) : Bool := l.all (fun p => p.kind == 1)
def quotedB (l : List Pt) : Bool := l.any (·.quoted)

theorem textS_snoc (l : List Pt) (p : Pt) : textS (l ++ [p]) = if p.kind = 1 then textS l ++ p.text else textS l := by simp [textS]
theorem textS_size (l : List Pt) : (textS l).size ≤ tsum l := by
  have : ∀ (l : List Pt) (a : ByteArray), (l.foldl (fun a p => if p.kind = 1 then a ++ p.text else a) a).size ≤ a.size + tsum l := by
    intro l
    induction l with
    | nil => intro a; simp
    | cons p l ih =>
      intro a
      rw [List.foldl_cons]
      have h1 := ih (if p.kind = 1 then a ++ p.text else a)
      have h2 : tsum (p :: l) = p.text.size + tsum l := by rw [show p :: l = [p] ++ l from rfl, tsum_append]; rfl
      rw [h2]
      split at h1
      · rename_i h; rw [if_pos h]; simp only [ByteArray.size_append] at h1; omega
      · rename_i h; rw [if_neg h]; omega
  have := this l ⟨#[]⟩
  rw [show ByteArray.size ⟨#[]⟩ = 0 from rfl, Nat.zero_add] at this
  exact this
theorem take_snoc {α : Type} {l : List α} {k : Nat} {p : α} (h : l[k]? = some p) : l.take (k + 1) = l.take k ++ [p] := by
  obtain ⟨hi, he⟩ := List.getElem?_eq_some_iff.1 h
  rw [List.take_succ_eq_append_getElem hi, he]

set_option maxRecDepth 100000 in
set_option maxHeartbeats 4000000 in
theorem Text_any (A : Nat → Prop) (l : List Pt) (la : Option Addr) (lcap : Nat) (w : World) (hm : l.length ≤ 1152921504606846976) (ht : tsum l ≤ 1152921504606846976) (hl : Rep w A (.sl l.length (cellsOf l)) (.slice la l.length lcap)) :
    Calls Tryz.prog 12 #[.agg #[.slice la l.length lcap]] w fun e w' => e = .returned (.string (textS l)) ∧ Kept (fun _ => False) w w' := by
  have HL := Lib.hid hl
  have HT := Lib.hid ht
  clear hl ht
  go_enter Tryz.func12, Tryz.ntmps12
  go_wp2
  go_loopg [3, 9] l.length (fun g s3 s9 wx => ∃ (k : Nat), k + g = l.length ∧ s9 = .int .i64 k ∧ s3 = .string (textS (l.take k)) ∧ Hid (Kept (fun _ => False) w wx))
  case atStart => exact ⟨0, by omega, rfl, rfl, Lib.hid ((Kept.refl _ _).alloc _)⟩
  case round =>
    obtain ⟨k, hkg, rfl, rfl, HK⟩ := hrel
    cases gk with
    | zero =>
      have hkl : k = l.length := by omega
      have hk1 : ¬ (k : Int) < (l.length : Int) := by omega
      have hfull : l.take k = l := by rw [hkl, List.take_length]
      rw [hfull]
      go_wp2
      go_ret
      exact ⟨rfl, HK.out⟩
    | succ gk =>
      have b1 : (0 : Int) ≤ (k : Int) := by omega
      have hk1 : (k : Int) < (l.length : Int) := by omega
      obtain ⟨p, hp⟩ : ∃ p, l[k]? = some p := ⟨_, List.getElem?_eq_getElem (by omega)⟩
      obtain ⟨g, off, rfl, hgl, c0, c1, c2, c3, c4, ⟨v5, c5, e5⟩, ⟨v6, c6, e6⟩, ⟨v7, c7, e7⟩, ⟨v8, c8, e8⟩, c9⟩ := part_at (HL.out.kept HK.out (fun _ _ _ f => f)) hp
      obtain ⟨a5, k5, rfl⟩ := e5.slice
      obtain ⟨a6, k6, rfl⟩ := e6.slice
      obtain ⟨a7, k7, rfl⟩ := e7.slice
      obtain ⟨a8, k8, rfl⟩ := e8.slice
      have hst := textS_snoc (l.take k) p
      rw [← take_snoc hp] at hst
      have hsz : (textS (l.take k)).size + p.text.size ≤ 1152921504606846976 := by
        have h1 := textS_size (l.take k)
        have h2 : tsum l = tsum (l.take k ++ [p]) + tsum (l.drop (k + 1)) := by rw [← take_snoc hp, ← tsum_append, List.take_append_drop]
        rw [tsum_append] at h2
        have h3 : tsum [p] = p.text.size := by simp [tsum]
        have := HT.out
        omega
      have HST := Lib.hid hst
      clear hst hp e5 e6 e7 e8
      by_cases hkind : p.kind = 1
      · have hkb : (p.kind == 1) = true := by simp [hkind]
        go_wp2
        go_roundg gk
        case measure => omega
        case rel =>
          refine ⟨k + 1, by omega, by simp, ?_, Lib.hid (HK.out.alloc _)⟩
          rw [HST.out, if_pos hkind]
      · have hkb : (p.kind == 1) = false := by simp [hkind]
        go_wp2
        go_roundg gk
        case measure => omega
        case rel =>
          refine ⟨k + 1, by omega, by simp, ?_, Lib.hid (HK.out.alloc _)⟩
          rw [HST.out, if_neg hkind]

set_option maxRecDepth 100000 in
set_option maxHeartbeats 4000000 in
theorem Quoted_any (A : Nat → Prop) (l : List Pt) (la : Option Addr) (lcap : Nat) (w : World) (hm : l.length ≤ 1152921504606846976) (hl : Rep w A (.sl l.length (cellsOf l)) (.slice la l.length lcap)) :
    Calls Tryz.prog 15 #[.agg #[.slice la l.length lcap]] w fun e w' => e = .returned (.bool (quotedB l)) ∧ Kept (fun _ => False) w w' := by
  have HL := Lib.hid hl
  clear hl
  go_enter Tryz.func15, Tryz.ntmps15
  go_wp2
  go_loopg [8] l.length (fun g s8 wx => ∃ (k : Nat), k + g = l.length ∧ s8 = .int .i64 k ∧ Hid (quotedB (l.take k) = false) ∧ Hid (Kept (fun _ => False) w wx))
  case atStart => exact ⟨0, by omega, rfl, rfl, Lib.hid ((Kept.refl _ _).alloc _)⟩
  case round =>
    obtain ⟨k, hkg, rfl, HQ, HK⟩ := hrel
    cases gk with
    | zero =>
      have hkl : k = l.length := by omega
      have hk1 : ¬ (k : Int) < (l.length : Int) := by omega
      have hfull : l.take k = l := by rw [hkl, List.take_length]
      have HQ2 := HQ.out
      rw [hfull] at HQ2
      go_wp2
      go_ret
      exact ⟨by first | rfl | simp [HQ2], HK.out⟩
    | succ gk =>
      have b1 : (0 : Int) ≤ (k : Int) := by omega
      have hk1 : (k : Int) < (l.length : Int) := by omega
      obtain ⟨p, hp⟩ : ∃ p, l[k]? = some p := ⟨_, List.getElem?_eq_getElem (by omega)⟩
      obtain ⟨g, off, rfl, hgl, c0, c1, c2, c3, c4, ⟨v5, c5, e5⟩, ⟨v6, c6, e6⟩, ⟨v7, c7, e7⟩, ⟨v8, c8, e8⟩, c9⟩ := part_at (HL.out.kept HK.out (fun _ _ _ f => f)) hp
      obtain ⟨a5, k5, rfl⟩ := e5.slice
      obtain ⟨a6, k6, rfl⟩ := e6.slice
      obtain ⟨a7, k7, rfl⟩ := e7.slice
      obtain ⟨a8, k8, rfl⟩ := e8.slice
      have HP := Lib.hid hp
      clear hp e5 e6 e7 e8
      cases hq : p.quoted with
      | true =>
        rw [hq] at c4
        have hall : quotedB l = true := by
          unfold quotedB
          exact List.any_eq_true.2 ⟨p, List.mem_of_getElem? HP.out, hq⟩
        have HA := Lib.hid hall
        clear hall
        go_wp2
        (try simp only [Exit.inBlock, Exit.then])
        go_ret
        exact ⟨by first | rfl | simp [HA.out], HK.out.alloc _⟩
      | false =>
        rw [hq] at c4
        go_wp2
        go_roundg gk
        case measure => omega
        case rel =>
          refine ⟨k + 1, by omega, by simp, Lib.hid ?_, Lib.hid (HK.out.alloc _)⟩
          have := HQ.out
          unfold quotedB at this ⊢
          rw [take_snoc HP.out, List.any_append, this]
          simp [hq]

set_option maxRecDepth 100000 in
set_option maxHeartbeats 4000000 in
theorem Literal_any (A : Nat → Prop) (l : List Pt) (la : Option Addr) (lcap : Nat) (w : World) (hm : l.length ≤ 1152921504606846976) (ht : tsum l ≤ 1152921504606846976) (hl : Rep w A (.sl l.length (cellsOf l)) (.slice la l.length lcap)) :
    Calls Tryz.prog 14 #[.agg #[.slice la l.length lcap]] w fun e w' => e = .returned (if literalB l = true then .tuple #[.string (textS l), .bool true] else .tuple #[.string ⟨#[]⟩, .bool false]) ∧ Kept (fun _ => False) w w' := by
  have HL := Lib.hid hl
  have HT := Lib.hid ht
  clear hl ht
  go_enter Tryz.func14, Tryz.ntmps14
  go_wp2
  go_loopg [4, 10] l.length (fun g s4 s10 wx => ∃ (k : Nat), k + g = l.length ∧ s10 = .int .i64 k ∧ s4 = .string (textS (l.take k)) ∧ Hid (literalB (l.take k) = true) ∧ Hid (Kept (fun _ => False) w wx))
  case atStart => exact ⟨0, by omega, rfl, rfl, rfl, Lib.hid ((Kept.refl _ _).alloc _)⟩
  case round =>
    obtain ⟨k, hkg, rfl, rfl, HQ, HK⟩ := hrel
    cases gk with
    | zero =>
      have hkl : k = l.length := by omega
      have hk1 : ¬ (k : Int) < (l.length : Int) := by omega
      have hfull : l.take k = l := by rw [hkl, List.take_length]
      have HQ2 := HQ.out
      rw [hfull] at HQ2 ⊢
      go_wp2
      go_ret2
      exact ⟨by first | rfl | simp [HQ2], HK.out⟩
    | succ gk =>
      have b1 : (0 : Int) ≤ (k : Int) := by omega
      have hk1 : (k : Int) < (l.length : Int) := by omega
      obtain ⟨p, hp⟩ : ∃ p, l[k]? = some p := ⟨_, List.getElem?_eq_getElem (by omega)⟩
      obtain ⟨g, off, rfl, hgl, c0, c1, c2, c3, c4, ⟨v5, c5, e5⟩, ⟨v6, c6, e6⟩, ⟨v7, c7, e7⟩, ⟨v8, c8, e8⟩, c9⟩ := part_at (HL.out.kept HK.out (fun _ _ _ f => f)) hp
      obtain ⟨a5, k5, rfl⟩ := e5.slice
      obtain ⟨a6, k6, rfl⟩ := e6.slice
      obtain ⟨a7, k7, rfl⟩ := e7.slice
      obtain ⟨a8, k8, rfl⟩ := e8.slice
      have hst := textS_snoc (l.take k) p
      rw [← take_snoc hp] at hst
      have hsz : (textS (l.take k)).size + p.text.size ≤ 1152921504606846976 := by
        have h1 := textS_size (l.take k)
        have h2 : tsum l = tsum (l.take k ++ [p]) + tsum (l.drop (k + 1)) := by rw [← take_snoc hp, ← tsum_append, List.take_append_drop]
        rw [tsum_append] at h2
        have h3 : tsum [p] = p.text.size := by simp [tsum]
        have := HT.out
        omega
      have HST := Lib.hid hst
      have HP := Lib.hid hp
      clear hst hp e5 e6 e7 e8
      by_cases hkind : p.kind = 1
      · have hkb : (p.kind != 1) = false := by simp [hkind]
        go_wp2
        go_roundg gk
        case measure => omega
        case rel =>
          refine ⟨k + 1, by omega, by simp, ?_, Lib.hid ?_, Lib.hid (HK.out.alloc _)⟩
          · rw [HST.out, if_pos hkind]
          · have := HQ.out
            unfold literalB at this ⊢
            rw [take_snoc HP.out, List.all_append, this]
            simp [hkind]
      · have hkb : (p.kind != 1) = true := by simp [hkind]
        have hall : literalB l = false := by
          unfold literalB
          rw [List.all_eq_false]
          exact ⟨p, List.mem_of_getElem? HP.out, by simp [hkind]⟩
        go_wp2
        all_goals (try simp only [Exit.inBlock, Exit.then])
        all_goals go_ret2
        all_goals exact ⟨by first | rfl | simp [hall], HK.out.alloc _⟩

end Go.Proofs.YtfkdeknblbmibaaGreatDoor
