/-
  LexHeredocs: lines up to one that ends them are told, plain as they stand. Proved for every input; the listed variables as the program's text lays them (the tied card).
-/
import Derived.Test.YtfkdeknblbmibaaGreatDoorRS
import Derived.Test.YtfkdeknblbmibaaGreatDoorA32
namespace Go.Proofs.YtfkdeknblbmibaaGreatDoor
open Go.ChangeShapes Go.WideShapes Go.ChangeAt Go.WideMaps Go.WideElems Go.RowKit
open Go.ChangeMaps (setBlock shut_map_nil open_string shut_string keptBut_setBlock frozen?_setBlock heap_setBlock_same)

set_option maxRecDepth 100000 in
set_option maxHeartbeats 1000000 in
theorem heredocs_lifted (os : Os) (started : os.Started) (H : Type) (enc : TypeId × Value → H) :
    ReturnsInHanded {} Tryz.checked os 8 .any (fun w args => (Rows.lexHeredocsSpec.pre enc Tryz.prog Tryz.f8 [] false w args ∧ laidMetH Tryz.prog laidL w) ∧ sizedMet enc Tryz.prog Tryz.f8 (OpenSpec.ofChange Rows.lexHeredocsSpec) false w args)
      (Rows.lexHeredocsSpec.post enc Tryz.prog Tryz.f8 false true false false) := by
  refine returnsInHanded_of_change_and (C := Tryz.checked) (X := fun w _ => laidMetH Tryz.prog laidL w) (fun _ _ _ hh h => h.of_heap hh) Tryz.own started (by kernel_rfl) Tryz.func8
    (ChangeSpec.witness_shaped (enc := enc) (C := Tryz.checked) (os := os) (X := fun w _ => laidMetH Tryz.prog laidL w) false (World.doorLaid Tryz.prog 400 os) #[.slice none 0 0, .string ⟨#[]⟩, .string ⟨#[]⟩, .bool false] 8 rfl (World.shaped_of_RefB (by kernel_rfl) (by kernel_rfl)) (by kernel_rfl) (by kernel_rfl) (by kernel_rfl) (door_met os _)) ?_
  intro W base args ds gs before hval0 hW _ hsz0 _ _
  have hval : ∀ (j : Nat) t v, Tryz.f8.params[j]? = some t → args[j]? = some v → Value.okWide Tryz.prog W .any base t v := hval0
  have hsz : (DataW.weightsEach Tryz.prog (Tryz.f8.params.toList ++ Rows.lexHeredocsSpec.plain.varTypes Tryz.prog) (ds ++ gs)).all (· ≤ reachBytes) = true := hsz0
  have hW' := hW
  obtain ⟨p, q, hA0, hV, rfl, hfz, hnd⟩ := hW
  have hA : DataW.TrodAll enc Tryz.prog W 0 (fun _ => true) true Tryz.f8.params.toList args.toList ds p := hA0
  rw [Tryz.params8] at hA hval hsz
  obtain ⟨v0, v1, v2, v3, d0, d1, d2, d3, p0, p1, p2, p3, rfl, rfl, rfl, h0, h1, h2, h3⟩ := trodAll_four hA
  obtain ⟨rfl, rfl⟩ := trodVars_none hV
  obtain ⟨en, rfl, rfl, rfl, we⟩ := open_string Tryz.underlying9 (hval 1 _ v1 rfl rfl) h1
  obtain ⟨rest, rfl, rfl, rfl, wr⟩ := open_string Tryz.underlying9 (hval 2 _ v2 rfl rfl) h2
  obtain ⟨bash, rfl, rfl, rfl⟩ := open_bool Tryz.underlying4 (hval 3 _ v3 rfl rfl) h3
  have hes : en.size ≤ 1125899906842624 := by
    have := sized_string hsz (j := 1) rfl rfl
    simp only [reachBytes, Array.length_toList, ByteArray.size_data] at this
    omega
  have hrs : rest.size ≤ 1125899906842624 := by
    have := sized_string hsz (j := 2) rfl rfl
    simp only [reachBytes, Array.length_toList, ByteArray.size_data] at this
    omega
  have key : ∀ (oa : Option Addr) (cap : Nat) (l : List ByteArray), v0 = .slice oa l.length cap → StrsAt W oa l → l.length ≤ 1152921504606846976 → (∀ s ∈ l, s.size ≤ 1125899906842624) →
      Calls Tryz.prog 8 #[v0, .string en, .string rest, .bool bash] W fun e W' => ∃ v, e = .returned v ∧ Rows.lexHeredocsSpec.post enc Tryz.prog Tryz.f8 false true false false W #[v0, .string en, .string rest, .bool bash] v W' := by
    intro oa cap l hv hl hll hss
    subst hv
    refine (LexHeredocs_any oa cap l en rest bash W hl hll hss hes hrs).mono fun e W' ⟨he, hk⟩ => ?_
    subst he
    have hb := hk.below
    refine ⟨_, rfl, _, _, _, [], p0, [], hW', ?_, ?_, ?_, hb.frame _, fun h => by cases h⟩
    · exact trodAll_mk1 (shut_bool Tryz.underlying4 true)
    · have := trodAll_mk4 (Below.trod Tryz.laidOut (by kernel_rfl) (of_decide_eq_true (by kernel_rfl)) h0 hb (fun x hx => hW'.lt x (by simp [hx]))) (shut_string (P := Tryz.prog) (w := W') (base := 0) (sp := fun b => decide (b < W.heap.size)) (held := true) Tryz.underlying9 we)
        (shut_string (P := Tryz.prog) (w := W') (base := 0) (sp := fun b => decide (b < W.heap.size)) (held := true) Tryz.underlying9 wr) (shut_bool Tryz.underlying4 bash)
      simp only [List.append_nil] at this
      exact this
    · rfl
  obtain ⟨a0, len, cap, rfl⟩ := okWide_slice Tryz.underlying34 (hval 0 _ v0 rfl rfl)
  obtain ⟨fuel, hf⟩ := h0
  obtain ⟨l, rfl, hl, hx⟩ := open_strs (show DataW.trod enc Tryz.prog W 0 (fun _ => true) true fuel _ [.slice a0 len cap] = some _ from hf)
  obtain ⟨hz2, hz3⟩ := sized_arg hsz (j := 0) rfl rfl hx
  exact key a0 cap l rfl hl (by omega) (fun s hs => by have := hz3 s hs; omega)

theorem heredocs_holds : Rows.LexHeredocsSaid :=
  OpenClaim.holds_of_wide 8 Tryz.f8 rfl rfl rfl rfl rfl rfl rfl ⟨rfl, rfl, rfl, rfl, rfl⟩ rfl rfl rfl rfl rfl (by kernel_rfl) Tryz.func8 (by kernel_rfl)
    (of_decide_eq_true (by kernel_rfl)) (by unfold Func.isWrapper; first | (rw [if_pos (by decide +kernel)]; kernel_rfl) | (rw [if_neg (by decide +kernel)]; exact ⟨rfl, rfl⟩))
    (fun os started H enc _ => heredocs_lifted os started H enc)

theorem heredocsCard_holds : Rows.LexHeredocsCardSaid :=
  Claim7.holds_tied_plain_at .later [] [.listed, .data] true (true, "7f8ae538b1ca4f425b5a70599ac541a13da632d65f55aac1cef20187faa6bd61") true
    heredocs_holds (fun _ h => by cases h) (by kernel_rfl) (fun _ h => by cases h) lexHeredocs_row_tie rfl ⟨rfl, rfl⟩ (by kernel_rfl) rfl
    (fun f fn hf hfn => by
      obtain rfl : f = 8 := Option.some.inj ((show Tryz.prog.funcNamed "cowrie/cowrielaw13.LexHeredocs" = some 8 by kernel_rfl).symm.trans hf) |>.symm
      obtain rfl : fn = Tryz.f8 := (Option.some.inj (Tryz.func8.symm.trans hfn)).symm
      exact ⟨by kernel_rfl, fun j t ht => by
        rw [Tryz.params8] at ht
        have h3 : t = 34 ∨ t = 9 ∨ t = 4 := by
          rcases j with _ | _ | _ | _ | j
          · exact .inl (by simpa using ht.symm)
          · exact .inr (.inl (by simpa using ht.symm))
          · exact .inr (.inl (by simpa using ht.symm))
          · exact .inr (.inr (by simpa using ht.symm))
          · simp at ht
        rcases h3 with rfl | rfl | rfl
        · exact (show Tryz.prog.wantsStandIn 34 = false by kernel_rfl)
        · exact (show Tryz.prog.wantsStandIn 9 = false by kernel_rfl)
        · exact (show Tryz.prog.wantsStandIn 4 = false by kernel_rfl)⟩)
    (by kernel_rfl)
#print axioms heredocsCard_holds
end Go.Proofs.YtfkdeknblbmibaaGreatDoor
