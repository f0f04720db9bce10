/-
  LexClosed: the ) that ends what is in parentheses is the first that has no pair. Proved for every input; the listed variables as the program's text lays them (the tied card).
-/
import Derived.Test.YtfkdeknblbmibaaGreatDoorRS
namespace Go.Proofs.YtfkdeknblbmibaaGreatDoor
open Go.ChangeShapes Go.WideShapes Go.ChangeAt Go.WideMaps Go.WideElems Go.RowKit
open Go.ChangeMaps (setBlock shut_map_nil open_string shut_string keptBut_setBlock frozen?_setBlock heap_setBlock_same)

set_option maxRecDepth 100000 in
set_option maxHeartbeats 1000000 in
theorem closed_lifted (os : Os) (started : os.Started) (H : Type) (enc : TypeId × Value → H) :
    ReturnsInHanded {} Tryz.checked os 4 .any (fun w args => (Rows.lexClosedSpec.pre enc Tryz.prog Tryz.f4 [] false w args ∧ laidMetH Tryz.prog laidL w) ∧ sizedMet enc Tryz.prog Tryz.f4 (OpenSpec.ofChange Rows.lexClosedSpec) false w args)
      (Rows.lexClosedSpec.post enc Tryz.prog Tryz.f4 false true false false) := by
  refine returnsInHanded_of_change_and (C := Tryz.checked) (X := fun w _ => laidMetH Tryz.prog laidL w) (fun _ _ _ hh h => h.of_heap hh) Tryz.own started (by kernel_rfl) Tryz.func4
    (ChangeSpec.witness_shaped (enc := enc) (C := Tryz.checked) (os := os) (X := fun w _ => laidMetH Tryz.prog laidL w) false (World.doorLaid Tryz.prog 400 os) #[.slice none 0 0, .string ⟨#[]⟩] 8 rfl (World.shaped_of_RefB (by kernel_rfl) (by kernel_rfl)) (by kernel_rfl) (by kernel_rfl) (by kernel_rfl) (door_met os _)) ?_
  intro W base args ds gs before hval0 hW _ hsz0 _ _
  have hval : ∀ (j : Nat) t v, Tryz.f4.params[j]? = some t → args[j]? = some v → Value.okWide Tryz.prog W .any base t v := hval0
  have hsz : (DataW.weightsEach Tryz.prog (Tryz.f4.params.toList ++ Rows.lexClosedSpec.plain.varTypes Tryz.prog) (ds ++ gs)).all (· ≤ reachBytes) = true := hsz0
  have hW' := hW
  obtain ⟨p, q, hA0, hV, rfl, hfz, hnd⟩ := hW
  have hA : DataW.TrodAll enc Tryz.prog W 0 (fun _ => true) true Tryz.f4.params.toList args.toList ds p := hA0
  rw [Tryz.params4] at hA hval hsz
  obtain ⟨v0, v1, d0, d1, p0, p1, rfl, rfl, rfl, h0, h1⟩ := trodAll_two hA
  obtain ⟨rfl, rfl⟩ := trodVars_none hV
  obtain ⟨rest, rfl, rfl, rfl, wr⟩ := open_string Tryz.underlying9 (hval 1 _ v1 rfl rfl) h1
  have hrs : rest.size ≤ 1125899906842624 := by
    have := sized_string hsz (j := 1) rfl rfl
    simp only [reachBytes, Array.length_toList, ByteArray.size_data] at this
    omega
  have key : ∀ (oa : Option Addr) (cap : Nat) (l : List ByteArray), v0 = .slice oa l.length cap → StrsAt W oa l → l.length ≤ 1152921504606846976 → (∀ s ∈ l, s.size ≤ 1125899906842624) →
      Calls Tryz.prog 4 #[v0, .string rest] W fun e W' => ∃ v, e = .returned v ∧ Rows.lexClosedSpec.post enc Tryz.prog Tryz.f4 false true false false W #[v0, .string rest] v W' := by
    intro oa cap l hv hl hll hss
    subst hv
    refine (LexClosed_any oa cap l rest W hl hll hss hrs).mono fun e W' ⟨he, hk⟩ => ?_
    subst he
    have hb := hk.below
    refine ⟨_, rfl, _, _, _, [], p0, [], hW', ?_, ?_, ?_, hb.frame _, fun h => by cases h⟩
    · exact trodAll_mk1 (shut_bool Tryz.underlying4 true)
    · have := trodAll_mk2 (Below.trod Tryz.laidOut (by kernel_rfl) (of_decide_eq_true (by kernel_rfl)) h0 hb (fun x hx => hW'.lt x (by simp [hx]))) (shut_string (P := Tryz.prog) (w := W') (base := 0) (sp := fun b => decide (b < W.heap.size)) (held := true) Tryz.underlying9 wr)
      rw [List.append_nil] at this
      exact this
    · rfl
  obtain ⟨a0, len, cap, rfl⟩ := okWide_slice Tryz.underlying34 (hval 0 _ v0 rfl rfl)
  obtain ⟨fuel, hf⟩ := h0
  obtain ⟨l, rfl, hl, hx⟩ := open_strs (show DataW.trod enc Tryz.prog W 0 (fun _ => true) true fuel _ [.slice a0 len cap] = some _ from hf)
  obtain ⟨h2, h3⟩ := sized_arg hsz (j := 0) rfl rfl hx
  exact key a0 cap l rfl hl (by omega) (fun s hs => by have := h3 s hs; omega)

theorem closed_holds : Rows.LexClosedSaid :=
  OpenClaim.holds_of_wide 4 Tryz.f4 rfl rfl rfl rfl rfl rfl rfl ⟨rfl, rfl, rfl, rfl, rfl⟩ rfl rfl rfl rfl rfl (by kernel_rfl) Tryz.func4 (by kernel_rfl)
    (of_decide_eq_true (by kernel_rfl)) (by unfold Func.isWrapper; first | (rw [if_pos (by decide +kernel)]; kernel_rfl) | (rw [if_neg (by decide +kernel)]; exact ⟨rfl, rfl⟩))
    (fun os started H enc _ => closed_lifted os started H enc)

theorem closedCard_holds : Rows.LexClosedCardSaid :=
  Claim7.holds_tied_plain_at .later [] [.listed, .data] true (true, "7f8ae538b1ca4f425b5a70599ac541a13da632d65f55aac1cef20187faa6bd61") true
    closed_holds (fun _ h => by cases h) (by kernel_rfl) (fun _ h => by cases h) lexClosed_row_tie rfl ⟨rfl, rfl⟩ (by kernel_rfl) rfl
    (fun f fn hf hfn => by
      obtain rfl : f = 4 := Option.some.inj ((show Tryz.prog.funcNamed "cowrie/cowrielaw13.LexClosed" = some 4 by kernel_rfl).symm.trans hf) |>.symm
      obtain rfl : fn = Tryz.f4 := (Option.some.inj (Tryz.func4.symm.trans hfn)).symm
      exact ⟨by kernel_rfl, fun j t ht => by
        rw [Tryz.params4] at ht
        have h3 : t = 34 ∨ t = 9 := by
          rcases j with _ | _ | j
          · exact .inl (by simpa using ht.symm)
          · exact .inr (by simpa using ht.symm)
          · simp at ht
        rcases h3 with rfl | rfl
        · exact (show Tryz.prog.wantsStandIn 34 = false by kernel_rfl)
        · exact (show Tryz.prog.wantsStandIn 9 = false by kernel_rfl)⟩)
    (by kernel_rfl)
#print axioms closedCard_holds
end Go.Proofs.YtfkdeknblbmibaaGreatDoor
