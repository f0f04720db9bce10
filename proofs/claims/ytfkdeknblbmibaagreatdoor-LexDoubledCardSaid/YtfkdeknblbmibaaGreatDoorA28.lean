/-
  The law LexDoubled is walked: it answers true, and of what was there nothing has turned. Condition: the text is not longer than 2^50 octets.
-/
import Derived.Test.YtfkdeknblbmibaaGreatDoorA25
namespace Go.Proofs.YtfkdeknblbmibaaGreatDoor
open Go.RowKit

theorem escS_snoc {s : ByteArray} {k : Nat} (hk : k < s.size) : escS (s.data.toList.take (k + 1)) = escS (s.data.toList.take k) ++ (if specialOct (oct s k) then [92, oct s k] else [oct s k]) := by
  have hk' : k < s.data.toList.length := by simpa using hk
  have ho : oct s k = s.data.toList[k] := by unfold oct; simp [List.getD_eq_getElem?_getD, List.getElem?_eq_getElem hk']
  rw [List.take_succ_eq_append_getElem hk', escS_append, ← ho]
  simp [escS]

theorem special_yes {c : UInt8} (h : c.toNat = 34 ∨ c.toNat = 36 ∨ c.toNat = 92 ∨ c.toNat = 96) : specialOct c = true := by
  have e : ∀ d : UInt8, c.toNat = d.toNat → c = d := fun d h => UInt8.toNat_inj.1 h
  rcases h with h | h | h | h
  · rw [e 34 h]; rfl
  · rw [e 36 h]; rfl
  · rw [e 92 h]; rfl
  · rw [e 96 h]; rfl
theorem special_no {c : UInt8} (h1 : ¬ c.toNat = 34) (h2 : ¬ c.toNat = 36) (h3 : ¬ c.toNat = 92) (h4 : ¬ c.toNat = 96) : specialOct c = false := by
  have e : ∀ d : UInt8, c.toNat ≠ d.toNat → (c == d) = false := fun d h => by
    cases hb : c == d with
    | false => rfl
    | true => exact absurd (by rw [eq_of_beq hb]) h
  unfold specialOct
  rw [e 34 h1, e 36 h2, e 92 h3, e 96 h4]; rfl

set_option maxRecDepth 100000 in
set_option maxHeartbeats 4000000 in
theorem LexDoubled_any (s : ByteArray) (bash : Bool) (w : World) (hs : s.size ≤ 1125899906842624) :
    Calls Tryz.prog 3 #[.string s, .bool bash] w fun e w' => e = .returned (.bool true) ∧ Kept (fun _ => False) w w' := by
  go_enter Tryz.func3, Tryz.ntmps3
  go_wp2_with fail
  refine (alive_any w).mono ?_
  rintro e w1 ⟨rfl, k1⟩
  have K1 := Lib.hid k1
  clear k1
  go_wp2
  go_loopg [5, 6] s.size (fun g s5 s6 wx => ∃ (i : Nat) (t : ByteArray), i + g = s.size ∧ s6 = .int .i64 i ∧ s5 = .string t ∧ Hid (t.data.toList = 34 :: escS (s.data.toList.take i)) ∧ t.size ≤ 2 * i + 1 ∧ Hid (NoneOf s i (fun c => c = 0)) ∧ Hid (Kept (fun _ => False) w wx))
  case atStart => exact ⟨0, ⟨#[34]⟩, by omega, rfl, rfl, Lib.hid (by simp [escS]), Nat.le_refl _, fun j hj => absurd hj (by omega), K1⟩
  case round =>
    obtain ⟨i, t, hig, rfl, rfl, HT, hts, HN, HK⟩ := hrel
    cases gk with
    | zero =>
      have hi1 : ¬ (i : Int) < (s.size : Int) := by omega
      have hi2 : i = s.size := by omega
      have hno := HN.out
      rw [hi2] at hno
      have hno2 := hno.mem
      have hfull : s.data.toList.take i = s.data.toList := by rw [hi2]; exact List.take_of_length_le (by simp)
      have htd := HT.out
      rw [hfull] at htd
      have e1 : ByteArray.size ⟨#[34]⟩ = 1 := rfl
      have hsz : (t ++ ⟨#[34]⟩ : ByteArray).size = t.size + 1 := by simp only [ByteArray.size_append, e1]
      have hword := word_doubled (t ++ ⟨#[34]⟩) s bash (by simp only [ByteArray.data_append, Array.toList_append, htd]; simp) hno2
      rw [hsz] at hword
      by_cases hlong : 65536 ≤ t.size
      · have hcall := fun wx => Word_long (t ++ ⟨#[34]⟩) bash wx (by omega) (by omega)
        have HC := Lib.hid hcall
        have hgt : (t.size : Int) ≥ 65536 := by omega
        clear hcall hword hno hno2 htd hlong hsz
        go_wp2_with fail
        refine (HC.out _).mono ?_
        rintro e w2 ⟨rfl, k2⟩
        have K2 := Lib.hid (HK.out.next k2)
        clear k2 HC HT HN hts
        go_wp2
        go_ret
        exact ⟨rfl, K2.out.alloc _⟩
      · have hcall := fun wx => Word_any (t ++ ⟨#[34]⟩) bash wx (by omega) (by rw [hword]; simp)
        rw [hword] at hcall
        have HC := Lib.hid hcall
        have hb2 : decide (65536 ≤ t.size) = false := decide_eq_false (by omega)
        have hb3 : decide ((t.size : Int) ≥ 65536) = false := decide_eq_false (by omega)
        have hw3 : IntKind.i64.wrap ((t.size : Int) + 1) = (t.size : Int) + 1 := IntWalk.i64_in _ (by omega)
        clear hcall hword hno hno2 htd hlong hsz
        go_wp2_with fail
        refine (HC.out _).mono ?_
        rintro e w2 ⟨v', rfl, o2, k2⟩
        obtain ⟨g, cap, rfl, hB, hg, c1, c4, l1, l2, l3⟩ := one_word o2 rfl (by show s.size ≤ _; omega)
        have K2 := Lib.hid (HK.out.next k2)
        clear k2 l1 l2 l3 o2 HC HT HN hts hB
        go_wp2
        go_ret
        exact ⟨rfl, K2.out.alloc _⟩
    | succ gk =>
      have hi1 : (i : Int) < (s.size : Int) := by omega
      have hix := ixAt (s := s) (i := (i : Int)) (k := i) rfl (by omega)
      have hsl := slAt (s := s) (i := (i : Int)) (j := (i : Int) + 1) (a := i) (b := i + 1) rfl (by omega) (by omega) (by omega)
      have hw1 : IntKind.i64.wrap ((i : Int) + 1) = (i : Int) + 1 := IntWalk.i64_in _ (by omega)
      have hes := escS_snoc (s := s) (k := i) (by omega)
      have hpc := one_piece (s := s) (k := i) (by omega)
      obtain ⟨c, hcc⟩ : ∃ c, c = oct s i := ⟨_, rfl⟩
      rw [← hcc] at hix hes hpc
      have HCC := Lib.hid hcc
      have HES := Lib.hid hes
      have HPC := Lib.hid hpc
      clear hcc hes hpc
      go_wp2
      all_goals first
      | (go_ret
         exact ⟨rfl, HK.out⟩)
      | (have hne : ¬ c = 0 := by
           rintro rfl
           simp_all
         have hsp : specialOct c = true := by
           first
           | exact special_yes (by omega)
           | (refine special_yes ?_; rename_i h; simp only [beq_iff_eq] at h; omega)
         have HSP := Lib.hid hsp
         have HNE := Lib.hid hne
         clear hne hsp
         go_roundg gk
         all_goals first
         | omega
         | exact ⟨i + 1, t ++ ⟨#[92]⟩ ++ s.extract i (i + 1), by omega, by simp, rfl, Lib.hid (by rw [HES.out, if_pos HSP.out]; simp only [ByteArray.data_append, Array.toList_append, HT.out, HPC.out]; simp), by simp only [ByteArray.size_append, ByteArray.size_extract, show ByteArray.size ⟨#[92]⟩ = 1 from rfl]; omega, Lib.hid (HN.out.snoc (by rw [← HCC.out]; exact HNE.out)), HK⟩)
      | (have hne : ¬ c = 0 := by
           rintro rfl
           simp_all
         have hsp : specialOct c = false := by
           rename_i h
           simp only [beq_eq_false_iff_ne, ne_eq] at h
           exact special_no (by omega) (by omega) (by omega) (by omega)
         have HSP := Lib.hid hsp
         have HNE := Lib.hid hne
         clear hne hsp
         go_roundg gk
         all_goals first
         | omega
         | exact ⟨i + 1, t ++ s.extract i (i + 1), by omega, by simp, rfl, Lib.hid (by rw [HES.out, if_neg (by rw [HSP.out]; simp)]; simp only [ByteArray.data_append, Array.toList_append, HT.out, HPC.out]; simp), by simp only [ByteArray.size_append, ByteArray.size_extract]; omega, Lib.hid (HN.out.snoc (by rw [← HCC.out]; exact HNE.out)), HK⟩)

end Go.Proofs.YtfkdeknblbmibaaGreatDoor
