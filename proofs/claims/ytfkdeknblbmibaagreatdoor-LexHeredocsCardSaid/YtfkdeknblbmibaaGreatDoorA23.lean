/-
  The law LexClosed is walked: it answers true, and of what was there nothing has turned. Condition: a slice of texts lies where the argument says; no text is longer than 2^50.
-/
import Derived.Test.YtfkdeknblbmibaaGreatDoorA22
namespace Go.Proofs.YtfkdeknblbmibaaGreatDoor
open Go.RowKit

/-- A slice of texts, where it lies. -/
def StrsAt (w : World) (oa : Option Addr) (l : List ByteArray) : Prop :=
  0 < l.length → ∃ b o, oa = some ⟨b, o, none⟩ ∧ b < w.heap.size ∧ ∀ (j : Nat) (s : ByteArray), l[j]? = some s → w.cell? ⟨b, o + j, none⟩ = some (.string s)

theorem StrsAt.kept {w w' : World} {oa : Option Addr} {l : List ByteArray} (h : StrsAt w oa l) (k : Kept (fun _ => False) w w') : StrsAt w' oa l := fun hl => by
  obtain ⟨b, o, e, hb, hc⟩ := h hl
  exact ⟨b, o, e, Nat.lt_of_lt_of_le hb k.size, fun j s hs => (k.cell hb (fun f => f)).trans (hc j s hs)⟩

theorem filterS_snoc {s : ByteArray} {k : Nat} (hk : k < s.size) : filterS (s.data.toList.take (k + 1)) = filterS (s.data.toList.take k) ++ (if closedPlain (oct s k) = true then [oct s k] else []) := by
  have hk' : k < s.data.toList.length := by simpa using hk
  have ho : oct s k = s.data.toList[k] := by unfold oct; simp [List.getD_eq_getElem?_getD, List.getElem?_eq_getElem hk']
  unfold filterS
  rw [List.take_succ_eq_append_getElem hk', List.filter_append, ← ho]
  congr 1
  simp only [List.filter_cons, List.filter_nil]

theorem one_piece {s : ByteArray} {k : Nat} (hk : k < s.size) : (s.extract k (k + 1)).data.toList = [oct s k] := by
  have hk' : k < s.data.toList.length := by simpa using hk
  have ho : oct s k = s.data.toList[k] := by unfold oct; simp [List.getD_eq_getElem?_getD, List.getElem?_eq_getElem hk']
  rw [ByteArray.data_extract, Array.toList_extract, List.extract_eq_take_drop, ho, List.drop_eq_getElem_cons hk']
  simp

theorem piecesS_append (l m : List (List UInt8)) : piecesS (l ++ m) = piecesS l ++ piecesS m := by
  induction l with
  | nil => rfl
  | cons w l ih => simp [piecesS, ih]

theorem closedPlain_no {c : UInt8} (h : c.toNat = 40 ∨ c.toNat = 41 ∨ c.toNat = 39 ∨ c.toNat = 34 ∨ c.toNat = 92) : closedPlain c = false := by
  have e : ∀ d : UInt8, c.toNat = d.toNat → c = d := fun d h => UInt8.toNat_inj.1 h
  rcases h with h | h | h | h | h
  · rw [e 40 h]; rfl
  · rw [e 41 h]; rfl
  · rw [e 39 h]; rfl
  · rw [e 34 h]; rfl
  · rw [e 92 h]; rfl
theorem closedPlain_eq (c : UInt8) : closedPlain c = ((((((c.toNat : Int) != 40) && ((c.toNat : Int) != 41)) && ((c.toNat : Int) != 39)) && ((c.toNat : Int) != 34)) && ((c.toNat : Int) != 92)) := by
  by_cases h : c.toNat = 40 ∨ c.toNat = 41 ∨ c.toNat = 39 ∨ c.toNat = 34 ∨ c.toNat = 92
  · rw [closedPlain_no h, eq_comm, Bool.eq_false_iff]
    intro h2
    simp only [Bool.and_eq_true, bne_iff_ne, ne_eq] at h2
    omega
  · have e : ∀ d : UInt8, c.toNat ≠ d.toNat → c ≠ d := fun d h e => h (by rw [e])
    have e1 := e 40 (by intro h2; exact h (.inl h2))
    have e2 := e 41 (by intro h2; exact h (.inr (.inl h2)))
    have e3 := e 39 (by intro h2; exact h (.inr (.inr (.inl h2))))
    have e4 := e 34 (by intro h2; exact h (.inr (.inr (.inr (.inl h2)))))
    have e5 := e 92 (by intro h2; exact h (.inr (.inr (.inr (.inr h2)))))
    rw [show closedPlain c = true by simp [closedPlain, e1, e2, e3, e4, e5], eq_comm]
    simp only [Bool.and_eq_true, bne_iff_ne, ne_eq]
    omega
theorem closedPlain_yes {c : UInt8} (h : (((((c.toNat : Int) != 40) = true ∧ ((c.toNat : Int) != 41) = true) ∧ ((c.toNat : Int) != 39) = true) ∧ ((c.toNat : Int) != 34) = true) ∧ ((c.toNat : Int) != 92) = true) : closedPlain c = true := by
  rw [closedPlain_eq]; simpa only [Bool.and_eq_true] using h
theorem closedPlain_no2 {c : UInt8} (h : (((((c.toNat : Int) != 40) = false ∨ ((c.toNat : Int) != 41) = false) ∨ ((c.toNat : Int) != 39) = false) ∨ ((c.toNat : Int) != 34) = false) ∨ ((c.toNat : Int) != 92) = false) : closedPlain c = false := by
  rw [closedPlain_eq]; simpa only [Bool.and_eq_false_iff] using h

set_option maxRecDepth 100000 in
set_option maxHeartbeats 4000000 in
theorem LexClosed_any (oa : Option Addr) (cap : Nat) (l : List ByteArray) (rest : ByteArray) (w : World) (hl : StrsAt w oa l) (hll : l.length ≤ 1152921504606846976) (hsz : ∀ s ∈ l, s.size ≤ 1125899906842624) (hrs : rest.size ≤ 1125899906842624) :
    Calls Tryz.prog 4 #[.slice oa l.length cap, .string rest] w fun e w' => e = .returned (.bool true) ∧ Kept (fun _ => False) w w' := by
  have HL := Lib.hid hl
  have HS := Lib.hid hsz
  clear hl hsz
  go_enter Tryz.func4, Tryz.ntmps4
  go_wp2_with fail
  refine (alive_any w).mono ?_
  rintro e w1 ⟨rfl, k1⟩
  have K1 := Lib.hid k1
  clear k1
  go_wp2
  go_loopg [5, 6] (min l.length 20) (fun g s5 s6 wx => ∃ (i : Nat) (t : ByteArray), i + g = min l.length 20 ∧ s6 = .int .i64 i ∧ s5 = .string t ∧ Hid (t.data.toList = piecesS ((l.take i).map (·.data.toList))) ∧ t.size ≤ i * 4503599627370496 ∧ Hid (Kept (fun _ => False) w wx))
  case atStart => exact ⟨0, ⟨#[]⟩, by omega, rfl, rfl, Lib.hid (by simp [piecesS]), Nat.zero_le _, K1⟩
  case round =>
    obtain ⟨i, t, hig, rfl, rfl, HT, hts, HK⟩ := hrel
    have k3 := HK.out
    cases gk with
    | zero =>
      have hi0 : (min l.length 20 : Nat) = i := by omega
      have hi1 : ¬ ((i : Int) < (l.length : Int)) ∨ ((i : Int) < (l.length : Int) ∧ ¬ (i : Int) < 20) := by omega
      have hil : i ≤ 20 := by omega
      have e1 : ByteArray.size ⟨#[41]⟩ = 1 := rfl
      have hts2 : (piecesS ((l.take i).map (·.data.toList))).length = t.size := by rw [← HT.out]; simp
      have hc1 : ∀ wx, Calls Tryz.prog 11 #[.string (t ++ ⟨#[41]⟩ ++ rest), .int .i64 0] wx fun e w' => e = .returned (.tuple #[.int .i64 t.size, .int .i64 0]) ∧ Kept (fun _ => False) wx w' := fun wx => by
        have := Closed_any (t ++ ⟨#[41]⟩ ++ rest) wx (by simp only [ByteArray.size_append, e1]; omega)
        rw [closed_law_ok _ ((l.take i).map (·.data.toList)) rest.data.toList (by simp only [ByteArray.data_append, Array.toList_append, HT.out]; simp), hts2] at this
        exact this
      have hc2 : ∀ wx, Calls Tryz.prog 11 #[.string t, .int .i64 0] wx fun e w' => e = .returned (.tuple #[.int .i64 t.size, .int .i64 8]) ∧ Kept (fun _ => False) wx w' := fun wx => by
        have := Closed_any t wx (by omega)
        rw [closed_law_bad _ ((l.take i).map (·.data.toList)) HT.out] at this
        exact this
      have HC1 := Lib.hid hc1
      have HC2 := Lib.hid hc2
      clear hc1 hc2 hts2 k3
      rcases hi1 with hi1 | ⟨hi1, hi2⟩
      all_goals
        go_wp2_with fail
        refine (HC1.out _).mono ?_
        rintro e w4 ⟨rfl, k4⟩
        go_wp2_with fail
        refine (HC2.out _).mono ?_
        rintro e w5 ⟨rfl, k5⟩
        have K5 := Lib.hid ((HK.out.next k4).next k5)
        clear k4 k5
        go_wp2
        go_ret
        exact ⟨rfl, K5.out⟩
    | succ gk =>
      have hi1 : (i : Int) < (l.length : Int) := by omega
      have hi2 : (i : Int) < 20 := by omega
      obtain ⟨b, o, rfl, hb, hc⟩ := (HL.out.kept HK.out) (by omega)
      obtain ⟨s, hs⟩ : ∃ s, l[i]? = some s := ⟨_, List.getElem?_eq_getElem (by omega)⟩
      have hss := HS.out s (List.mem_of_getElem? hs)
      have hcs := hc i s hs
      have HC := Lib.hid hc
      clear hc k3
      go_wp2
      have ht2 := hts
      clear hts hcs
      go_loopg [7, 8] s.size (fun g s7 s8 wy => ∃ (k : Nat) (t2 : ByteArray), k + g = s.size ∧ s8 = .int .i64 k ∧ s7 = .string t2 ∧ Hid (t2.data.toList = filterS (s.data.toList.take k)) ∧ t2.size ≤ k ∧ wy.cell? ⟨b, o + i, none⟩ = some (.string s) ∧ Hid (Kept (fun _ => False) w wy))
      case atStart => exact ⟨0, ⟨#[]⟩, by omega, rfl, rfl, Lib.hid (by simp [filterS]), Nat.zero_le _, HC.out i s hs, HK⟩
      case round =>
        obtain ⟨k, t2, hkg, rfl, rfl, HT2, ht3, hcs, HK2⟩ := hrel
        cases gk with
        | zero =>
          have hk1 : ¬ (k : Int) < (s.size : Int) := by omega
          go_wp2
          go_roundg gk
          case measure => omega
          case rel =>
            have hks : k = s.size := by omega
            have hfull : s.data.toList.take k = s.data.toList := by rw [hks]; exact List.take_of_length_le (by simp)
            have htk : l.take (i + 1) = l.take i ++ [s] := by
              obtain ⟨hil, hsl⟩ := List.getElem?_eq_some_iff.1 hs
              rw [List.take_succ_eq_append_getElem hil, hsl]
            refine ⟨i + 1, t ++ ⟨#[40]⟩ ++ t2 ++ ⟨#[41]⟩ ++ ⟨#[39, 40, 39]⟩ ++ t2, by omega, by simp, rfl, Lib.hid ?_, ?_, HK2⟩
            · have h2 := HT2.out
              rw [hfull] at h2
              rw [htk, List.map_append, piecesS_append]
              simp only [ByteArray.data_append, Array.toList_append, HT.out, h2, List.map_cons, List.map_nil, piecesS, pieceS, List.append_nil]
              simp
            · simp only [ByteArray.size_append, show ByteArray.size ⟨#[40]⟩ = 1 from rfl, show ByteArray.size ⟨#[41]⟩ = 1 from rfl, show ByteArray.size ⟨#[39, 40, 39]⟩ = 3 from rfl]
              omega
        | succ gk2 =>
          have hk1 : (k : Int) < (s.size : Int) := by omega
          have hix := ixAt (s := s) (i := (k : Int)) (k := k) rfl (by omega)
          have hsl := slAt (s := s) (i := (k : Int)) (j := (k : Int) + 1) (a := k) (b := k + 1) rfl (by omega) (by omega) (by omega)
          have hw1 : IntKind.i64.wrap ((k : Int) + 1) = (k : Int) + 1 := IntWalk.i64_in _ (by omega)
          obtain ⟨c, hcc⟩ : ∃ c, c = oct s k := ⟨_, rfl⟩
          rw [← hcc] at hix
          have hfs := filterS_snoc (s := s) (k := k) (by omega)
          have hpc := one_piece (s := s) (k := k) (by omega)
          rw [← hcc] at hfs hpc
          have HF := Lib.hid hfs
          have HPC := Lib.hid hpc
          clear hfs hpc hcc
          go_wp2
          all_goals
            first
            | have hcl : closedPlain c = false := closedPlain_no (by omega)
            | (rename_i hcc; have hcl : closedPlain c = true := closedPlain_yes hcc; clear hcc)
            | (rename_i hcc; have hcl : closedPlain c = false := closedPlain_no2 hcc; clear hcc)
            have HCL := Lib.hid hcl
            clear hcl
            go_roundg gk2
            all_goals first
            | omega
            | exact ⟨k + 1, t2, by omega, by simp, rfl, Lib.hid (by rw [HF.out, HCL.out, HT2.out]; simp), by omega, hcs, HK2⟩
            | exact ⟨k + 1, t2 ++ s.extract k (k + 1), by omega, by simp, rfl, Lib.hid (by rw [HF.out, HCL.out, ByteArray.data_append, Array.toList_append, HT2.out, HPC.out]; simp), by rw [ByteArray.size_append, ByteArray.size_extract]; omega, hcs, HK2⟩

end Go.Proofs.YtfkdeknblbmibaaGreatDoor
