/-
  The law LexHeredocs is walked: it answers true, and of what was there nothing has turned. Condition: a slice of texts lies where the argument says; no text is longer than 2^50.
-/
import Derived.Test.YtfkdeknblbmibaaGreatDoorA31
namespace Go.Proofs.YtfkdeknblbmibaaGreatDoor
open Go.RowKit

/-- A line: neither newline nor octet 0, and not the one that ends them. -/
def Line (e x : ByteArray) : Prop := NoneOf x x.size (fun c => c = 10 ∨ c = 0) ∧ x ≠ e

/-- Heredoc, whatever it finds in lines that have no octet 0. -/
theorem Heredoc_some (s e : ByteArray) (bash : Bool) (hs : s.size ≤ 1152921504606846976) (h0 : ∀ c ∈ s.data.toList, c ≠ 0) :
    ∃ (p er : Int), (bodyS s e (s.size + 1) 0 = none → er = 8) ∧ ∀ (w : World), Calls Tryz.prog 16 #[.string s, .int .i64 0, .string e, .bool true, .bool bash] w fun x w' => ∃ sa sn sc, x = .returned (.tuple #[.agg #[.slice sa sn sc], .int .i64 p, .int .i64 er]) ∧ Kept (fun _ => False) w w' := by
  cases hb : bodyS s e (s.size + 1) 0 with
  | none =>
    refine ⟨s.size, 8, fun _ => rfl, fun w => (Heredoc_none s e bash w hs hb).mono ?_⟩
    rintro x w' ⟨rfl, k⟩
    exact ⟨none, 0, 0, rfl, k⟩
  | some an =>
    obtain ⟨a, n⟩ := an
    have hbd := bodyS_bound _ _ _ _ hb
    refine ⟨n, 0, (fun h => by cases h), fun w => (Heredoc_ok s e (s.extract 0 a) bash a n w hs hbd.2 hb rfl ?_).mono ?_⟩
    · rw [ixb_no]
      · decide
      · intro hm
        rw [ByteArray.data_extract, Array.toList_extract, List.extract_eq_take_drop] at hm
        exact h0 0 (List.mem_of_mem_drop (List.mem_of_mem_take hm)) rfl
    · rintro x w' ⟨v', rfl, o, k⟩
      obtain ⟨sa, sc, rfl⟩ := OwnsP.len o
      exact ⟨sa, 1, sc, rfl, k⟩

set_option maxRecDepth 100000 in
set_option maxHeartbeats 8000000 in
theorem LexHeredocs_any (oa : Option Addr) (cap : Nat) (l : List ByteArray) (e rest : ByteArray) (bash : Bool) (w : World) (hl : StrsAt w oa l) (hll : l.length ≤ 1152921504606846976) (hsz : ∀ s ∈ l, s.size ≤ 1125899906842624) (hes : e.size ≤ 1125899906842624) (hrs : rest.size ≤ 1125899906842624) :
    Calls Tryz.prog 8 #[.slice oa l.length cap, .string e, .string rest, .bool bash] w fun e w' => e = .returned (.bool true) ∧ Kept (fun _ => False) w w' := by
  have HL := Lib.hid hl
  have HS := Lib.hid hsz
  clear hl hsz
  go_enter Tryz.func8, Tryz.ntmps8
  go_wp2_with fail
  refine (alive_any w).mono ?_
  rintro x w1 ⟨rfl, k1⟩
  have K1 := Lib.hid k1
  clear k1
  go_wp2
  go_loopg [9, 10] (min l.length 20) (fun g s9 s10 wx => ∃ (i : Nat) (t : ByteArray), i + g = min l.length 20 ∧ s10 = .int .i64 i ∧ s9 = .string t ∧ Hid (t.data.toList = linesS ((l.take i).map (·.data.toList))) ∧ t.size ≤ i * 1125899906842625 ∧ Hid (∀ x ∈ l.take i, Line e x) ∧ Hid (Kept (fun _ => False) w wx))
  case atStart => exact ⟨0, ⟨#[]⟩, by omega, rfl, rfl, Lib.hid (by simp [linesS]), Nat.zero_le _, Lib.hid (by simp), K1⟩
  case round =>
    obtain ⟨i, t, hig, rfl, rfl, HT, hts, HLI, HK⟩ := hrel
    cases gk with
    | zero =>
      have hi0 : (min l.length 20 : Nat) = i := by omega
      have hil : i ≤ 20 := by omega
      have hi1 : ¬ ((i : Int) < (l.length : Int)) ∨ ((i : Int) < (l.length : Int) ∧ ¬ (i : Int) < 20) := by omega
      rcases hi1 with hi1 | ⟨hi1, hi2⟩
      all_goals
        go_wp2
        go_loopg [12] e.size (fun g s12 wx => ∃ (k : Nat), k + g = e.size ∧ s12 = .int .i64 k ∧ Hid (NoneOf e k (fun c => c = 10)) ∧ Hid (Kept (fun _ => False) w wx))
        case atStart => exact ⟨0, by omega, rfl, fun j hj => absurd hj (by omega), HK⟩
        case round =>
          obtain ⟨k, hkg, rfl, HE, HK2⟩ := hrel
          cases gk with
          | zero =>
            have hek : k = e.size := by omega
            have hk1 : ¬ (k : Int) < (e.size : Int) := by omega
            have hno := HE.out
            rw [hek] at hno
            have hno2 : ¬ (10 : UInt8) ∈ e.data.toList := fun h => hno.mem _ h rfl
            have hT := HT.out
            have hLi : ∀ v ∈ (l.take i).map (·.data.toList), ∃ x ∈ l.take i, v = x.data.toList := fun v hv => by
              obtain ⟨x, hx, he⟩ := List.mem_map.1 hv
              exact ⟨x, hx, he.symm⟩
            obtain ⟨L, hL⟩ : ∃ L, (l.take i).map (·.data.toList) = L := ⟨_, rfl⟩
            rw [hL] at hT hLi
            have hlines : ∀ v ∈ L, ¬ (10 : UInt8) ∈ v ∧ v ≠ e.data.toList := fun v hv => by
              obtain ⟨x, hx, rfl⟩ := hLi v hv
              have hx2 := HLI.out x hx
              exact ⟨fun h => hx2.1.mem _ h (.inl rfl), fun h => hx2.2 (data_ext h)⟩
            have ht0 : ∀ c ∈ t.data.toList, c ≠ 0 := fun c hc h => by
              rw [hT] at hc
              rcases linesS_mem hc with h2 | ⟨v, hv, h2⟩
              · rw [h] at h2; exact absurd h2 (by decide)
              · obtain ⟨x, hx, rfl⟩ := hLi v hv
                exact (HLI.out x hx).1.mem _ h2 (.inr h)
            have hls : (linesS L).length = t.size := by rw [← hT]; simp
            have e1 : ByteArray.size ⟨#[10]⟩ = 1 := rfl
            have hb1 := body_law_ok (t ++ e ++ ⟨#[10]⟩ ++ rest) e L rest.data.toList (by simp only [ByteArray.data_append, Array.toList_append, hT]; simp) hlines hno2
            rw [hls] at hb1
            have hex : (t ++ e ++ ⟨#[10]⟩ ++ rest : ByteArray).extract 0 t.size = t := by
              apply data_ext
              rw [ByteArray.data_extract, Array.toList_extract, List.extract_eq_take_drop]
              simp
            have hc1 := fun wx => Heredoc_ok (t ++ e ++ ⟨#[10]⟩ ++ rest) e t bash t.size (t.size + e.size + 1) wx (by simp only [ByteArray.size_append, e1]; omega) (by simp only [ByteArray.size_append, e1]; omega) hb1 hex (by rw [ixb_no (fun h => ht0 0 h rfl)]; decide)
            obtain ⟨p2, er2, hnone, hc2⟩ := Heredoc_some t (e ++ ⟨#[120]⟩) bash (by omega) ht0
            have hnone2 : ¬ (e ++ ⟨#[120]⟩ : ByteArray) ∈ l → er2 = 8 := fun hn => hnone (body_law_none t (e ++ ⟨#[120]⟩) L hT (fun v hv => ⟨(hlines v hv).1, fun h => by
              obtain ⟨x, hx, rfl⟩ := hLi v hv
              exact hn (by rw [← data_ext h]; exact List.mem_of_mem_take hx)⟩))
            have hc3 := fun wx (hk : Kept (fun _ => False) w wx) => has_strs oa cap l (e ++ ⟨#[120]⟩) wx (HL.out.kept hk) hll
            have hw1 : IntKind.i64.wrap ((t.size : Int) + (e.size : Int)) = (t.size : Int) + (e.size : Int) := IntWalk.i64_in _ (by omega)
            have hw2 : IntKind.i64.wrap ((t.size : Int) + (e.size : Int) + 1) = (t.size : Int) + (e.size : Int) + 1 := IntWalk.i64_in _ (by omega)
            have htsz : t.size ≤ 1152921504606846976 := by omega
            have HC1 := Lib.hid hc1
            have HC2 := Lib.hid hc2
            have HC3 := Lib.hid hc3
            have HN2 := Lib.hid hnone2
            clear hc1 hc2 hc3 hnone2 hnone hex hb1 hls ht0 hlines hL hLi hT hno hno2
            go_wp2_with fail
            refine (HC1.out _).mono ?_
            rintro x w2 ⟨v', rfl, o2, k2⟩
            obtain ⟨g, wcap, rfl, hB, hg, c1, c4, l1, l2, l3⟩ := one_word o2 rfl htsz
            have L3 := Lib.hid l3
            have K2 := Lib.hid (HK2.out.next k2)
            have hbx : ∀ wx, Kept (fun _ => False) (w2.alloc (.cells #[.slice (some ⟨g, 0, none⟩) 1 wcap] 25)) wx → wx.cell? ⟨w2.heap.size, 0, none⟩ = some (.slice (some ⟨g, 0, none⟩) 1 wcap) ∧ Kept (fun _ => False) w2 wx := fun wx k => by
              have h1 : (w2.alloc (.cells #[.slice (some ⟨g, 0, none⟩) 1 wcap] 25)).heap[w2.heap.size]? = some (.cells #[.slice (some ⟨g, 0, none⟩) 1 wcap] 25 (0, 0)) := heap_alloc_new _ _
              have k' : Kept (fun _ => False) w2 wx := ((Kept.refl _ _).alloc _).next k
              exact ⟨cell_of_one ((k.block _ (heap_lt h1) (fun f => f)).trans h1), k'⟩
            have HBX := Lib.hid hbx
            clear k2 l1 l2 l3 o2 hbx c1 c4 HC1 hB
            go_wp2_with fail
            refine (HC2.out _).mono ?_
            rintro x w3 ⟨sa, sn, sc, rfl, k3⟩
            have K3 := Lib.hid k3
            clear k3 HC2
            cases hem : e.toList.isEmpty with
            | true =>
              go_wp2
              go_ret
              exact ⟨rfl, ((K2.out.alloc _).next K3.out).alloc _⟩
            | false =>
              have K4 := Lib.hid ((K3.out).alloc (.cells #[.slice sa sn sc] 25))
              go_wp2_with fail
              refine (HC3.out _ ((K2.out.alloc _).next K4.out)).mono ?_
              rintro x w4 ⟨rfl, n, rfl⟩
              cases hh : hasS l (e ++ ⟨#[120]⟩) with
              | true =>
                go_wp2
                go_ret
                exact ⟨rfl, ((K2.out.alloc _).next K4.out).drewN n⟩
              | false =>
                obtain rfl := HN2.out (hasS_not hh)
                obtain ⟨x0, kx⟩ := HBX.out _ (K4.out.drewN n)
                have KX := Lib.hid kx
                clear hh kx
                go_wp2_with fail
                refine (L3.out _ KX.out).mono ?_
                rintro x w5 ⟨rfl, k5⟩
                have K5 := Lib.hid ((K2.out.next KX.out).next k5)
                clear k5 x0
                go_wp2
                go_ret
                exact ⟨rfl, K5.out⟩
          | succ gk2 =>
            have hk1 : (k : Int) < (e.size : Int) := by omega
            have hix := ixAt (s := e) (i := (k : Int)) (k := k) rfl (by omega)
            obtain ⟨c, hcc⟩ : ∃ c, c = oct e k := ⟨_, rfl⟩
            rw [← hcc] at hix
            have HCC := Lib.hid hcc
            clear hcc
            by_cases h10 : c.toNat = 10
            · go_wp2
              (try simp only [Exit.inBlock, Exit.then])
              go_ret
              exact ⟨rfl, HK2.out⟩
            · have hb10 : ((c.toNat : Int) == 10) = false := by simp; omega
              have hne : ¬ c = 10 := fun h => h10 (by rw [h]; rfl)
              have HNE := Lib.hid hne
              clear hne h10
              go_wp2
              go_roundg gk2
              all_goals first
              | omega
              | exact ⟨k + 1, by omega, by simp, Lib.hid (HE.out.snoc (by rw [← HCC.out]; exact HNE.out)), HK2⟩
    | succ gk =>
      have hi1 : (i : Int) < (l.length : Int) := by omega
      have hi2 : (i : Int) < 20 := by omega
      obtain ⟨b, o, rfl, hb, hc⟩ := (HL.out.kept HK.out) (by omega)
      obtain ⟨s, hs⟩ : ∃ s, l[i]? = some s := ⟨_, List.getElem?_eq_getElem (by omega)⟩
      have hss := HS.out s (List.mem_of_getElem? hs)
      have hcs := hc i s hs
      have HC := Lib.hid hc
      have HSI := Lib.hid hs
      clear hc hs
      go_wp2
      have ht2 := hts
      clear hts hcs
      go_loopg [11] s.size (fun g s11 wy => ∃ (k : Nat), k + g = s.size ∧ s11 = .int .i64 k ∧ Hid (NoneOf s k (fun c => c = 10 ∨ c = 0)) ∧ wy.cell? ⟨b, o + i, none⟩ = some (.string s) ∧ Hid (Kept (fun _ => False) w wy))
      case atStart => exact ⟨0, by omega, rfl, fun j hj => absurd hj (by omega), HC.out i s HSI.out, HK⟩
      case round =>
        obtain ⟨k, hkg, rfl, HN, hcs, HK2⟩ := hrel
        cases gk with
        | zero =>
          have hk1 : ¬ (k : Int) < (s.size : Int) := by omega
          by_cases heq : s = e
          · have hb1 : (s.toList == e.toList) = true := by rw [str_eq]; simp [heq]
            clear heq
            go_wp2
            (try simp only [Exit.inBlock, Exit.then])
            go_ret
            exact ⟨rfl, HK2.out⟩
          · have hb1 : (s.toList == e.toList) = false := by rw [str_eq]; simp [heq]
            have HEQ := Lib.hid heq
            clear heq
            go_wp2
            go_roundg gk
            case measure => omega
            case rel =>
              have hks : k = s.size := by omega
              have hno := HN.out
              rw [hks] at hno
              refine ⟨i + 1, t ++ s ++ ⟨#[10]⟩, by omega, by simp, rfl, Lib.hid ?_, ?_, Lib.hid ?_, HK2⟩
              · rw [take_snoc HSI.out, List.map_append, linesS_append]
                simp only [ByteArray.data_append, Array.toList_append, HT.out, List.map_cons, List.map_nil, linesS]
                simp
              · simp only [ByteArray.size_append, show ByteArray.size ⟨#[10]⟩ = 1 from rfl]
                omega
              · rw [take_snoc HSI.out]
                intro x hx
                rcases List.mem_append.1 hx with hx | hx
                · exact HLI.out x hx
                · rw [List.mem_singleton] at hx
                  subst hx
                  exact ⟨hno, HEQ.out⟩
        | succ gk2 =>
          have hk1 : (k : Int) < (s.size : Int) := by omega
          have hix := ixAt (s := s) (i := (k : Int)) (k := k) rfl (by omega)
          obtain ⟨c, hcc⟩ : ∃ c, c = oct s k := ⟨_, rfl⟩
          rw [← hcc] at hix
          have HCC := Lib.hid hcc
          clear hcc
          by_cases h10 : c.toNat = 10
          · go_wp2
            (try simp only [Exit.inBlock, Exit.then])
            go_ret
            exact ⟨rfl, HK2.out⟩
          · have hb10 : ((c.toNat : Int) == 10) = false := by simp; omega
            by_cases h0 : c.toNat = 0
            · go_wp2
              all_goals (try simp only [Exit.inBlock, Exit.then])
              all_goals go_ret
              all_goals exact ⟨rfl, HK2.out⟩
            · have hb0 : ((c.toNat : Int) == 0) = false := by simp; omega
              have hne : ¬ (c = 10 ∨ c = 0) := by
                rintro (h | h)
                · exact h10 (by rw [h]; rfl)
                · exact h0 (by rw [h]; rfl)
              have HNE := Lib.hid hne
              clear hne h10 h0
              go_wp2
              go_roundg gk2
              all_goals first
              | omega
              | exact ⟨k + 1, by omega, by simp, Lib.hid (HN.out.snoc (by rw [← HCC.out]; exact HNE.out)), hcs, HK2⟩

end Go.Proofs.YtfkdeknblbmibaaGreatDoor
