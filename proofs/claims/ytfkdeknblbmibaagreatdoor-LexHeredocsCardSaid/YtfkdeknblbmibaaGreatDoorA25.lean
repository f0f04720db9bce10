/-
  The laws LexQuoted and LexPlain are walked: each answers true, and of what was there nothing has turned. Condition: no text is longer than 2^50 octets.
-/
import Derived.Test.YtfkdeknblbmibaaGreatDoorA24
namespace Go.Proofs.YtfkdeknblbmibaaGreatDoor
open Go.RowKit

/-- A word of one text: what Literal, Quoted and Text answer of it. -/
theorem one_word {w : World} {B : Nat} {v : Value} {p : Pt} (o : OwnsP w B v [p]) (hk : p.kind = 1) (hs : p.text.size ≤ 1152921504606846976) :
    ∃ g cap, v = .slice (some ⟨g, 0, none⟩) 1 cap ∧ B ≤ g ∧ g < w.heap.size ∧ w.cell? ⟨g, 1, none⟩ = some (.string p.text) ∧ w.cell? ⟨g, 4, none⟩ = some (.bool p.quoted) ∧
      (∀ wx, Kept (fun _ => False) w wx → Calls Tryz.prog 14 #[.agg #[.slice (some ⟨g, 0, none⟩) 1 cap]] wx fun e w' => e = .returned (.tuple #[.string p.text, .bool true]) ∧ Kept (fun _ => False) wx w') ∧
      (∀ wx, Kept (fun _ => False) w wx → Calls Tryz.prog 15 #[.agg #[.slice (some ⟨g, 0, none⟩) 1 cap]] wx fun e w' => e = .returned (.bool p.quoted) ∧ Kept (fun _ => False) wx w') ∧
      (∀ wx, Kept (fun _ => False) w wx → Calls Tryz.prog 12 #[.agg #[.slice (some ⟨g, 0, none⟩) 1 cap]] wx fun e w' => e = .returned (.string p.text) ∧ Kept (fun _ => False) wx w') := by
  have hrep := Owns.rep o (by simp : [p].length ≤ 140737488355328)
  obtain ⟨g, cap, rfl, hB, hg, hf, hc⟩ := OwnsP.last (l := []) o
  have c1 := atom_cell (hc 1 _ rfl)
  have c4 := atom_cell (hc 4 _ rfl)
  have htx : textS [p] = p.text := by
    unfold textS
    simp only [List.foldl_cons, List.foldl_nil, if_pos hk]
    exact data_ext (by simp)
  have hts : tsum [p] ≤ 1152921504606846976 := by simp [tsum, hs]
  refine ⟨g, cap, rfl, hB, hg, by simpa using c1, by simpa using c4, fun wx k => ?_, fun wx k => ?_, fun wx k => ?_⟩
  · have := Literal_any _ [p] (some ⟨g, 0, none⟩) cap wx (by simp) hts (hrep.kept k (fun _ _ _ f => f))
    rw [htx, if_pos (show literalB [p] = true by simp [literalB, hk])] at this
    exact this
  · have := Quoted_any _ [p] (some ⟨g, 0, none⟩) cap wx (by simp) (hrep.kept k (fun _ _ _ f => f))
    rw [show quotedB [p] = p.quoted by simp [quotedB]] at this
    exact this
  · have := Text_any _ [p] (some ⟨g, 0, none⟩) cap wx (by simp) hts (hrep.kept k (fun _ _ _ f => f))
    rw [htx] at this
    exact this

/-- s has none of two octets, up to i. -/
def NoneOf (s : ByteArray) (i : Nat) (p : UInt8 → Prop) : Prop := ∀ j, j < i → ¬ p (oct s j)
theorem NoneOf.snoc {s : ByteArray} {i : Nat} {p : UInt8 → Prop} (h : NoneOf s i p) (hp : ¬ p (oct s i)) : NoneOf s (i + 1) p := fun j hj => by
  by_cases e : j = i
  · rw [e]; exact hp
  · exact h j (by omega)
theorem NoneOf.mem {s : ByteArray} {p : UInt8 → Prop} (h : NoneOf s s.size p) : ∀ c ∈ s.data.toList, ¬ p c := fun c hc => by
  obtain ⟨j, hj, he⟩ := List.getElem_of_mem hc
  have hj' : j < s.size := by simpa using hj
  have := h j hj'
  unfold oct at this
  rwa [List.getD_eq_getElem?_getD, List.getElem?_eq_getElem hj, Option.getD_some, he] at this

set_option maxRecDepth 100000 in
set_option maxHeartbeats 4000000 in
theorem LexQuoted_any (s rest : ByteArray) (bash : Bool) (w : World) (hs : s.size ≤ 1125899906842624) (hrs : rest.size ≤ 1125899906842624) :
    Calls Tryz.prog 7 #[.string s, .string rest, .bool bash] w fun e w' => e = .returned (.bool true) ∧ Kept (fun _ => False) w w' := by
  go_enter Tryz.func7, Tryz.ntmps7
  go_wp2_with fail
  refine (alive_any w).mono ?_
  rintro e w1 ⟨rfl, k1⟩
  have K1 := Lib.hid k1
  clear k1
  go_wp2
  go_loopg [7] s.size (fun g s7 wx => ∃ (i : Nat), i + g = s.size ∧ s7 = .int .i64 i ∧ Hid (NoneOf s i (fun c => c = 39 ∨ c = 0)) ∧ Hid (Kept (fun _ => False) w wx))
  case atStart => exact ⟨0, by omega, rfl, fun j hj => absurd hj (by omega), K1⟩
  case round =>
    obtain ⟨i, hig, rfl, HN, HK⟩ := hrel
    cases gk with
    | zero =>
      have hi1 : ¬ (i : Int) < (s.size : Int) := by omega
      have hi2 : i = s.size := by omega
      have hno := HN.out
      rw [hi2] at hno
      have hno2 := hno.mem
      have e1 : ByteArray.size ⟨#[39]⟩ = 1 := rfl
      have e2 : ByteArray.size ⟨#[39, 32]⟩ = 2 := rfl
      have hsz : (⟨#[39]⟩ ++ s ++ ⟨#[39, 32]⟩ ++ rest : ByteArray).size = s.size + rest.size + 3 := by simp only [ByteArray.size_append, e1, e2]; omega
      have hword := word_quoted (⟨#[39]⟩ ++ s ++ ⟨#[39, 32]⟩ ++ rest) s rest bash (by simp only [ByteArray.data_append, Array.toList_append]; simp) (fun h => hno2 _ h (.inl rfl)) (fun h => hno2 _ h (.inr rfl))
      by_cases hlong : 65536 < (⟨#[39]⟩ ++ s ++ ⟨#[39, 32]⟩ ++ rest : ByteArray).size
      · have hcall := fun wx => Word_long (⟨#[39]⟩ ++ s ++ ⟨#[39, 32]⟩ ++ rest) bash wx hlong (by omega)
        have HC := Lib.hid hcall
        have hgt : ((⟨#[39]⟩ ++ s ++ ⟨#[39, 32]⟩ ++ rest : ByteArray).size : Int) > 65536 := by omega
        clear hcall hword hno hno2 hlong hsz
        go_wp2_with fail
        refine (HC.out _).mono ?_
        rintro e w2 ⟨rfl, k2⟩
        have K2 := Lib.hid (HK.out.next k2)
        clear k2 HC
        generalize (⟨#[39]⟩ ++ s ++ ⟨#[39, 32]⟩ ++ rest : ByteArray) = t at hgt ⊢
        go_wp2
        go_ret
        exact ⟨rfl, K2.out.alloc _⟩
      · have hcall := fun wx => Word_any (⟨#[39]⟩ ++ s ++ ⟨#[39, 32]⟩ ++ rest) bash wx (by omega) (by rw [hword]; simp)
        rw [hword] at hcall
        have HC := Lib.hid hcall
        have hgt : ¬ ((⟨#[39]⟩ ++ s ++ ⟨#[39, 32]⟩ ++ rest : ByteArray).size : Int) > 65536 := by omega
        clear hcall hword hno hno2 hlong hsz
        go_wp2_with fail
        refine (HC.out _).mono ?_
        rintro e w2 ⟨v', rfl, o2, k2⟩
        clear HC
        generalize (⟨#[39]⟩ ++ s ++ ⟨#[39, 32]⟩ ++ rest : ByteArray) = t at hgt ⊢
        obtain ⟨g, cap, rfl, hB, hg, c1, c4, l1, l2, l3⟩ := one_word o2 rfl (by show s.size ≤ _; omega)
        have L1 := Lib.hid l1
        have L2 := Lib.hid l2
        have L3 := Lib.hid l3
        have K2 := Lib.hid (HK.out.next k2)
        have hbx : ∀ wx, Kept (fun _ => False) (w2.alloc (.cells #[.slice (some ⟨g, 0, none⟩) 1 cap] 25)) wx → wx.cell? ⟨w2.heap.size, 0, none⟩ = some (.slice (some ⟨g, 0, none⟩) 1 cap) ∧ wx.cell? ⟨g, 4, none⟩ = some (.bool true) ∧ Kept (fun _ => False) w2 wx := fun wx k => by
          have h1 : (w2.alloc (.cells #[.slice (some ⟨g, 0, none⟩) 1 cap] 25)).heap[w2.heap.size]? = some (.cells #[.slice (some ⟨g, 0, none⟩) 1 cap] 25 (0, 0)) := heap_alloc_new _ _
          have k' : Kept (fun _ => False) w2 wx := ((Kept.refl _ _).alloc _).next k
          exact ⟨cell_of_one ((k.block _ (heap_lt h1) (fun f => f)).trans h1), (k'.cell hg (fun f => f)).trans c4, k'⟩
        have HBX := Lib.hid hbx
        clear k2 l1 l2 l3 o2 hbx c1 c4
        go_wp2_with fail
        refine (L1.out _ ((Kept.refl _ _).alloc _)).mono ?_
        rintro e w3 ⟨rfl, k3⟩
        obtain ⟨x0, x4, kx⟩ := HBX.out _ k3
        have K3 := Lib.hid k3
        have KX := Lib.hid kx
        clear k3 kx
        go_wp2_with fail
        refine (L2.out _ KX.out).mono ?_
        rintro e w4 ⟨rfl, k4⟩
        clear x0 x4
        obtain ⟨x0, x4, kx⟩ := HBX.out _ (K3.out.next k4)
        have K4 := Lib.hid (K3.out.next k4)
        have KX4 := Lib.hid kx
        clear k4 kx
        go_wp2_with fail
        refine (L3.out _ KX4.out).mono ?_
        rintro e w5 ⟨rfl, k5⟩
        have K5 := Lib.hid ((K2.out.next KX4.out).next k5)
        clear k5 x0 x4
        go_wp2
        go_ret
        exact ⟨rfl, K5.out⟩
    | succ gk =>
      have hi1 : (i : Int) < (s.size : Int) := by omega
      have hix := ixAt (s := s) (i := (i : Int)) (k := i) rfl (by omega)
      obtain ⟨c, hcc⟩ : ∃ c, c = oct s i := ⟨_, rfl⟩
      rw [← hcc] at hix
      have HCC := Lib.hid hcc
      clear hcc
      go_wp2
      all_goals first
      | (go_ret
         exact ⟨rfl, HK.out⟩)
      | (have hne : ¬ (c = 39 ∨ c = 0) := by
           rintro (e | e)
           · subst e; simp_all
           · subst e; simp_all
         have HNE := Lib.hid hne
         clear hne
         go_roundg gk
         all_goals first
         | omega
         | exact ⟨i + 1, by omega, by simp, Lib.hid (HN.out.snoc (by rw [← HCC.out]; exact HNE.out)), HK⟩)

end Go.Proofs.YtfkdeknblbmibaaGreatDoor
