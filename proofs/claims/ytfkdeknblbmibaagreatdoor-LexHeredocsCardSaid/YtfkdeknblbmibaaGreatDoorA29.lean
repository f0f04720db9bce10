/-
  lex: body is walked, with strings.Cut at a newline: it answers 'bodyS'. Condition: the text has at most 2^60 octets.
-/
import Derived.Test.YtfkdeknblbmibaaGreatDoorA24
namespace Go.Proofs.YtfkdeknblbmibaaGreatDoor
open Go.RowKit

theorem ixb_le : ∀ (l : List UInt8) (c : UInt8), Lib.indexByte l c ≤ l.length
  | [], _ => by simp [Lib.indexByte]
  | b :: l, c => by
    have := ixb_le l c
    unfold Lib.indexByte
    rw [List.length_cons]
    split
    · omega
    · split <;> omega

theorem ixb_lt {s : ByteArray} {c : UInt8} {n : Int} (hn : Lib.indexByte s.data.toList c = n) (h0 : ¬ n < 0) : n + 1 ≤ s.size := by
  obtain ⟨k, hk⟩ : ∃ k : Nat, n = k := ⟨n.toNat, by omega⟩
  have h1 := (Lib.indexByte_some (hn.trans hk)).1
  have h2 := (List.getElem?_eq_some_iff.1 h1).1
  simp at h2
  omega

def nlB : ByteArray := ⟨#[10]⟩

set_option maxRecDepth 100000 in
set_option maxHeartbeats 1000000 in
theorem index_nl (s : ByteArray) (w : World) :
    Calls Tryz.prog 67 #[.string s, .string nlB] w fun e w' => e = .returned (.int .i64 (Lib.indexByte s.data.toList 10)) ∧ w' = w := by
  have e1 : ((nlB.size : Int) == 0) = false := rfl
  have e2 : ((nlB.size : Int) == 1) = true := rfl
  cases heq : (nlB.toList == s.toList) with
  | true =>
    have hsd : s.data.toList = [10] := by
      have := eq_of_beq heq
      rw [← Lib.toList_data, ← this, Lib.toList_data]; rfl
    have hix : Lib.indexByte s.data.toList 10 = 0 := by rw [hsd]; rfl
    have HIX := Lib.hid hix
    clear hix hsd
    go_enter Tryz.func67, Tryz.ntmps67
    go_wp2_with fail
    go_ret
    rw [HIX.out]
    exact ⟨rfl, rfl⟩
  | false =>
    go_enter Tryz.func67, Tryz.ntmps67
    go_wp2_with fail
    refine (Tryz.stringslite_IndexByte s 10 _).mono ?_
    rintro e w1 ⟨rfl, rfl⟩
    go_wp2
    go_ret
    exact ⟨rfl, rfl⟩

/-- What Cut hands back first. -/
def CutPost (line : ByteArray) (w : World) (e : Ending) (w' : World) : Prop := ∃ m after found, e = .returned (.tuple #[.string line, .string after, .bool found]) ∧ w' = w.drewN m

set_option maxRecDepth 100000 in
set_option maxHeartbeats 1000000 in
theorem cut_nl (s : ByteArray) (w : World) (hs : s.size ≤ 1152921504606846976) :
    Calls Tryz.prog 54 #[.string s, .string nlB] w (CutPost (if Lib.indexByte s.data.toList 10 < 0 then s else s.extract 0 (Lib.indexByte s.data.toList 10).toNat) w) := by
  have hge := Lib.indexByte_ge s.data.toList 10
  have hle := ixb_le s.data.toList 10
  have hcall := fun wx => index_nl s wx
  obtain ⟨n, hn⟩ : ∃ n, Lib.indexByte s.data.toList 10 = n := ⟨_, rfl⟩
  rw [hn] at hge hle hcall ⊢
  simp only [Array.length_toList, ByteArray.size_data] at hle
  obtain ⟨line, hline⟩ : ∃ line, (if n < 0 then s else s.extract 0 n.toNat) = line := ⟨_, rfl⟩
  rw [hline]
  have HC := Lib.hid hcall
  have HN := Lib.hid hn
  clear hcall hn
  go_enter Tryz.func54, Tryz.ntmps54
  by_cases hneg : n < 0
  · rw [if_pos hneg] at hline
    subst hline
    have hneg2 : ¬ (n ≥ 0) := by omega
    go_wp2_with fail
    refine (HC.out _).mono ?_
    rintro e w1 ⟨rfl, rfl⟩
    go_wp2
    go_ret3
    exact ⟨0, _, _, rfl, rfl⟩
  · rw [if_neg hneg] at hline
    have hsz1 : (nlB.size : Int) = 1 := rfl
    have hlt : n < s.size ∨ n = s.size := by omega
    have hnn : n + 1 ≤ s.size := ixb_lt HN.out hneg
    have hsl1 := slTo (s := s) (j := n) (b := n.toNat) (by omega) (by omega)
    have hw1 : IntKind.i64.wrap (n + (nlB.size : Int)) = n + (nlB.size : Int) := IntWalk.i64_in _ (by omega)
    have hsl2 := slFrom (s := s) (i := n + (nlB.size : Int)) (a := n.toNat + 1) (by omega) (by omega)
    rw [hline] at hsl1
    clear hline hlt
    go_wp2_with fail
    refine (HC.out _).mono ?_
    rintro e w1 ⟨rfl, rfl⟩
    go_wp2
    go_quiet (fail)
    go_wp2
    go_ret3
    exact ⟨_, _, _, rfl, rfl⟩

set_option maxRecDepth 100000 in
set_option maxHeartbeats 1000000 in
theorem strings_cut_nl (s : ByteArray) (w : World) (hs : s.size ≤ 1152921504606846976) :
    Calls Tryz.prog 41 #[.string s, .string nlB] w (CutPost (if Lib.indexByte s.data.toList 10 < 0 then s else s.extract 0 (Lib.indexByte s.data.toList 10).toNat) w) := by
  have hcall := fun wx => cut_nl s wx hs
  generalize (if Lib.indexByte s.data.toList 10 < 0 then s else s.extract 0 (Lib.indexByte s.data.toList 10).toNat) = line at hcall ⊢
  have HC := Lib.hid hcall
  clear hcall
  go_enter Tryz.func41, Tryz.ntmps41
  go_wp2_with fail
  refine (HC.out _).mono ?_
  rintro e w1 ⟨m, after, found, rfl, rfl⟩
  go_wp2
  go_ret3
  exact ⟨m, after, found, rfl, rfl⟩

/-- What body answers. -/
def bodyV (s : ByteArray) (r : Option (Nat × Nat)) : Value :=
  match r with
  | some (a, n) => .tuple #[.string (s.extract 0 a), .int .i64 n, .bool true]
  | none => .tuple #[.string ⟨#[]⟩, .int .i64 0, .bool false]

set_option maxRecDepth 100000 in
set_option maxHeartbeats 2000000 in
theorem body_any (s e : ByteArray) (w : World) (hs : s.size ≤ 1152921504606846976) :
    Calls Tryz.prog 28 #[.string s, .string e] w fun x w' => x = .returned (bodyV s (bodyS s e (s.size + 1) 0)) ∧ ∃ m, w' = w.drewN m := by
  obtain ⟨r, hr⟩ : ∃ r, bodyS s e (s.size + 1) 0 = r := ⟨_, rfl⟩
  rw [hr]
  have HR := Lib.hid hr
  clear hr
  go_enter Tryz.func28, Tryz.ntmps28
  go_wp2
  go_loopg [7] (s.size + 1) (fun g s7 wx => ∃ (a : Nat), s7 = .int .i64 a ∧ s.size + 1 ≤ g + a ∧ a ≤ s.size ∧ Hid (bodyS s e g a = r) ∧ ∃ m, wx = w.drewN m)
  case atStart => exact ⟨0, rfl, by omega, by omega, HR, 0, rfl⟩
  case round =>
    obtain ⟨a, rfl, hga, has, HB, m, rfl⟩ := hrel
    cases gk with
    | zero => omega
    | succ gk =>
      have hb := HB.out
      rw [bodyS] at hb
      by_cases hge : s.size ≤ a
      · rw [if_pos hge] at hb
        have hlt : ¬ (a : Int) < (s.size : Int) := by omega
        have HB2 := Lib.hid hb
        clear hb
        go_wp2
        go_ret3
        rw [← HB2.out]
        exact ⟨rfl, m, rfl⟩
      · rw [if_neg hge] at hb
        have hlt : (a : Int) < (s.size : Int) := by omega
        have hsl := slFrom (s := s) (i := (a : Int)) (a := a) rfl has
        obtain ⟨t, ht⟩ : ∃ t, s.extract a s.size = t := ⟨_, rfl⟩
        have htd : t.data.toList = s.data.toList.drop a := by rw [← ht]; exact Lib.extract_to_end s a
        have hts : t.size = s.size - a := by rw [← ht, ByteArray.size_extract]; omega
        have hcut := fun wx => strings_cut_nl t wx (by omega)
        have hn1 := Lib.indexByte_ge (s.data.toList.drop a) 10
        have hn2 := ixb_le (s.data.toList.drop a) 10
        rw [htd] at hcut
        obtain ⟨n, hn⟩ : ∃ n, Lib.indexByte (s.data.toList.drop a) 10 = n := ⟨_, rfl⟩
        rw [hn] at hb hcut hn1 hn2
        obtain ⟨q, hq⟩ : ∃ q : Nat, (if n < 0 then s.size - a else n.toNat) = q := ⟨_, rfl⟩
        simp only at hb
        rw [hq] at hb
        have hqle : a + q ≤ s.size := by
          simp only [List.length_drop, Array.length_toList, ByteArray.size_data] at hn2
          split at hq <;> omega
        have hline : (if n < 0 then t else t.extract 0 n.toNat) = s.extract a (a + q) := by
          rw [← hq]
          split
          · rw [show a + (s.size - a) = s.size by omega, ht]
          · apply data_ext
            rw [ByteArray.data_extract, Array.toList_extract, ByteArray.data_extract, Array.toList_extract, htd]
            simp [List.extract_eq_take_drop]
        rw [hline] at hcut
        obtain ⟨line, hl⟩ : ∃ line, s.extract a (a + q) = line := ⟨_, rfl⟩
        rw [hl] at hb hcut
        have hls : line.size = q := by rw [← hl, ByteArray.size_extract]; omega
        rw [ht] at hsl
        have hw1 : IntKind.i64.wrap ((a : Int) + (line.size : Int)) = (a : Int) + (line.size : Int) := IntWalk.i64_in _ (by omega)
        have hw2 : IntKind.i64.wrap ((a : Int) + (line.size : Int) + 1) = (a : Int) + (line.size : Int) + 1 := IntWalk.i64_in _ (by omega)
        have HCUT := Lib.hid hcut
        have HB2 := Lib.hid hb
        have HLS := Lib.hid hls
        clear hcut hb hline htd hts hn hq hn1 hn2 ht hl hls
        go_wp2_with fail
        refine (HCUT.out _).mono ?_
        rintro x w2 ⟨m2, after, found, rfl, rfl⟩
        by_cases heq : line = e
        · have hb1 : (line.toList == e.toList) = true := by rw [heq]; simp
          have hto := slTo (s := s) (j := (a : Int)) (b := a) rfl has
          have hbb := HB2.out
          rw [if_pos heq] at hbb
          have HBB := Lib.hid hbb
          clear hbb heq
          go_wp2
          go_ret3
          refine ⟨?_, _, rfl⟩
          rw [← HBB.out]
          have := HLS.out
          have e3 : min ((a : Int) + line.size + 1) s.size = ((min (a + q + 1) s.size : Nat) : Int) := by omega
          unfold bodyV
          simp only
          rw [← e3]
          rfl
        · have hb1 : (line.toList == e.toList) = false := by
            cases hb : (line.toList == e.toList) with
            | false => rfl
            | true => exact absurd (data_ext (by rw [← Lib.toList_data, ← Lib.toList_data]; exact eq_of_beq hb)) heq
          have hbb := HB2.out
          rw [if_neg heq] at hbb
          have HBB := Lib.hid hbb
          clear hbb heq
          go_wp2
          go_roundg gk
          case measure => omega
          case rel => 
            have := HLS.out
            exact ⟨min (a + q + 1) s.size, by congr 1; omega, by omega, by omega, HBB, _, rfl⟩

end Go.Proofs.YtfkdeknblbmibaaGreatDoor
