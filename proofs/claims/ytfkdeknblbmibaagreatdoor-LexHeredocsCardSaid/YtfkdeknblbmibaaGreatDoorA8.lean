/-
  lex: slash is walked: a backslash within double quotes, as 'slashS' says.
-/
import Derived.Test.YtfkdeknblbmibaaGreatDoorA7
namespace Go.Proofs.YtfkdeknblbmibaaGreatDoor
open Go.RowKit

def SlashPost (B xb : Nat) (s : ByteArray) (bash : Bool) (deep : Int) (vb : Value) (b : List UInt8) (a' : Nat) (w : World) (e : Ending) (w' : World) : Prop :=
  ∃ vb', e = .returned vb' ∧ OwnsB w' B vb' b ∧ ScanAt w' xb s a' bash deep ∧ Kept (fun k => k = xb ∨ vb.ownBlock = some k) w w' ∧ (∀ k, vb'.ownBlock = some k → vb.ownBlock = some k ∨ w.heap.size ≤ k) ∧ (b = [] → vb' = vb)

theorem OwnsB.row {w : World} {B : Nat} {v : Value} {l : List UInt8} (h : OwnsB w B v l) : w.ownsRow B 5 1 v l.length (l.map fun c => .int .u8 c.toNat) := h

set_option maxRecDepth 100000 in
set_option maxHeartbeats 1000000 in
theorem slash_any (B xb : Nat) (s : ByteArray) (a : Nat) (bash : Bool) (deep : Int) (vb : Value) (b : List UInt8) (w : World) (hs : s.size ≤ 100000) (ha : a < s.size) (hB : B ≤ w.heap.size) (hxB : xb < B) (hx : ScanAt w xb s a bash deep)
    (hb : OwnsB w B vb b) (hl : b.length ≤ 1000000) :
    Calls Tryz.prog 44 #[.pointer (some ⟨xb, 0, none⟩), vb] w (SlashPost B xb s bash deep vb (b ++ (slashS s a).1) (slashS s a).2 w) := by
  obtain ⟨r, hr⟩ : ∃ r, r = slashS s a := ⟨_, rfl⟩
  rw [← hr]
  unfold slashS at hr
  have hp := peek_any xb s a 1 bash deep w (by omega) (by omega) hx
  have c1 := hx.c1
  have f1 := hx.f 1
  obtain ⟨n, hn⟩ : ∃ n, n = oct s (a + 1) := ⟨_, rfl⟩
  rw [← hn] at hp
  simp only [← hn] at hr
  have HP := Lib.hid hp
  have HX := Lib.hid hx
  have HB := Lib.hid hb
  have hnx : ∀ k, vb.ownBlock = some k → ¬ k = xb := fun k hk e => by have := (hb.lt k hk).1; omega
  have HNX := Lib.hid hnx
  obtain ⟨i0, hi, hz0, hz1, hz2⟩ := info_parts info_byte
  clear hp hx hb hn hnx
  by_cases h10 : n.toNat = 10
  · rw [if_pos h10] at hr
    have HR := Lib.hid hr
    have hb10 : ((n.toNat : Int) == 10) = true := by simp [h10]
    clear hr h10
    go_enter Tryz.func44, Tryz.ntmps44
    go_wp2_with fail
    refine HP.out.mono ?_
    rintro e w1 ⟨rfl, m, rfl⟩
    go_wp2
    go_ret
    rw [HR.out]
    refine ⟨vb, rfl, ?_, ?_, kept_at ((Kept.refl _ _).drewN m) 1 _ (fun _ => .inl rfl), fun k hk => .inl hk, fun _ => rfl⟩
    · simp only [List.append_nil]
      exact HB.out.kept (S := fun k => k = xb) (kept_at ((Kept.refl _ _).drewN m) 1 _ (fun _ => rfl)) HNX.out
    · have := (HX.out.drewN m).set1 (a + 2)
      simpa using this
  · rw [if_neg h10] at hr
    have hb10 : ((n.toNat : Int) == 10) = false := by simp; omega
    by_cases he : n.toNat ≠ 0 ∧ 0 ≤ ixI escapedB n
    · rw [if_pos he] at hr
      have HR := Lib.hid hr
      obtain ⟨h0, h1⟩ := he
      have h0' : 0 < n.toNat := by omega
      have HIE : Hid (0 ≤ Lib.indexByte [36, 34, 92, 96] n) := h1
      clear hr h10 h0 h1
      go_enter Tryz.func44, Tryz.ntmps44
      go_wp2_with fail
      refine HP.out.mono ?_
      rintro e w1 ⟨rfl, m, rfl⟩
      go_wp2_with fail
      refine (Tryz.strings_IndexByte _ _ _).mono ?_
      rintro e w1 ⟨rfl, rfl⟩
      have hie : (0 : Int) ≤ Lib.indexByte [36, 34, 92, 96] n := HIE.out
      go_upto_region 6 with fail
      generalize hwq : World.setCell _ _ _ = wq
      have k1 : Kept (fun k => k = xb) w wq := by rw [← hwq]; exact kept_at ((Kept.refl _ _).drewN m) 1 _ (fun _ => rfl)
      have x1 : ScanAt wq xb s (a + 2) bash deep := by
        have := (HX.out.drewN m).set1 (a + 2)
        rw [← hwq]
        simpa using this
      have o1 := HB.out.kept k1 HNX.out
      clear hwq
      have K1 := Lib.hid k1
      have X1 := Lib.hid x1
      have O1 := Lib.hid o1
      have hwB : B ≤ wq.heap.size := Nat.le_trans hB k1.size
      clear k1 x1 o1
      go_wp2_with (at_builtin; go_must (refine wpList_append_lies _ rfl (.tmp 27) (.tmp 29) 73 rfl B 5 i0 _ 1 1 Tryz.underlying73 hi hz0 hz1 hz2 rfl (by decide) _ b.length _ rfl (O1.out.row.alloc _) ⟨wq.heap.size, 0, none⟩ 1 1 [.int .u8 n.toNat] rfl rfl ?_ ?_ (by decide) ?_ ?_ ?_ _ rfl ?_))
      · exact fun j u h => cell_new rfl j u h
      · simp [Value.oneCell']
      · unfold maxLen; omega
      · omega
      · simp; omega
      intro g cap' w' ho' hg' hv' _
      have HO := Lib.hid ho'
      have HG := Lib.hid hg'
      have HV := Lib.hid hv'
      clear ho' hg' hv'
      go_wp2
      go_ret
      rw [HR.out]
      refine ⟨.slice (some ⟨g, 0, none⟩) (b.length + 1) cap', rfl, by simpa [OwnsB] using HO.out, ?_, ?_, ?_, fun h => by simp at h⟩
      · exact (X1.out.alloc _).kept (Kept.of_grown HG.out) (HNX.out xb · rfl)
      · exact ((K1.out.mono (fun _ _ h => .inl h)).alloc _).grown HG.out (fun k hk _ => .inr hk)
      · intro k hk
        simp only [Value.ownBlock, Option.some.injEq] at hk
        subst hk
        rcases HV.out with h | h
        · exact .inl h
        · exact .inr (by have := K1.out.size; omega)
    · rw [if_neg he] at hr
      have HR := Lib.hid hr
      have hw : n.toNat = 0 ∨ (0 < n.toNat ∧ Lib.indexByte [36, 34, 92, 96] n < 0) := by
        by_cases h0 : n.toNat = 0
        · exact .inl h0
        · refine .inr ⟨by omega, ?_⟩
          have : ¬ 0 ≤ ixI escapedB n := fun h => he ⟨h0, h⟩
          have h2 : ¬ 0 ≤ Lib.indexByte [36, 34, 92, 96] n := this
          omega
      have HW := Lib.hid hw
      clear hr h10 he hw
      go_enter Tryz.func44, Tryz.ntmps44
      go_wp2_with fail
      refine HP.out.mono ?_
      rintro e w1 ⟨rfl, m, rfl⟩
      go_upto_region 5 with fail
      go_cut [5, 19] (fun _ t wx => t = .bool false ∧ wx = (w.drewN m).setCell ⟨xb, 1, none⟩ (.int .i64 ((a : Int) + 2)))
      case first =>
        rcases HW.out with h0 | ⟨h0, h1⟩
        · go_wp2
          go_meet
          exact ⟨rfl, rfl⟩
        · have HH := Lib.hid h1
          clear h1
          go_wp2_with fail
          refine (Tryz.strings_IndexByte _ _ _).mono ?_
          rintro e w1 ⟨rfl, rfl⟩
          go_wp2
          go_meet
          have hd : decide (0 ≤ Lib.indexByte [36, 34, 92, 96] n) = false := decide_eq_false (by have := HH.out; omega)
          exact ⟨by rw [hd, Bool.and_false], rfl⟩
      case rest =>
        obtain ⟨rfl, rfl⟩ := hcut
        go_upto_region 8 with fail
        generalize hwq : World.setCell _ _ _ = wq
        have k0 : Kept (fun k => k = xb) w ((w.drewN m).setCell ⟨xb, 1, none⟩ (.int .i64 ((a : Int) + 2))) := kept_at ((Kept.refl _ _).drewN m) 1 _ (fun _ => rfl)
        have k1 : Kept (fun k => k = xb) w wq := by rw [← hwq]; exact kept_at k0 1 _ (fun _ => rfl)
        have x1 : ScanAt wq xb s (a + 1) bash deep := by
          have h1 := ((HX.out.drewN m).set1 (a + 2)).set1 (a + 1)
          rw [← hwq]
          have e1 : ((a : Int) + 2) = ((a + 2 : Nat) : Int) := by omega
          have e2 : ((a + 2 : Nat) : Int) - 1 = ((a + 1 : Nat) : Int) := by omega
          simp only [e1, e2]
          exact h1
        have o1 := HB.out.kept k1 HNX.out
        clear hwq
        have K1 := Lib.hid k1
        have X1 := Lib.hid x1
        have O1 := Lib.hid o1
        have hwB : B ≤ wq.heap.size := Nat.le_trans hB k1.size
        clear k1 x1 o1
        go_wp2_with (at_builtin; go_must (refine wpList_append_lies _ rfl (.tmp 38) (.tmp 39) 73 rfl B 5 i0 _ 1 1 Tryz.underlying73 hi hz0 hz1 hz2 rfl (by decide) _ b.length _ rfl (O1.out.row.alloc _) ⟨wq.heap.size, 0, none⟩ 1 1 [.int .u8 92] rfl rfl ?_ ?_ (by decide) ?_ ?_ ?_ _ rfl ?_))
        · exact fun j u h => cell_new rfl j u h
        · simp [Value.oneCell']
        · unfold maxLen; omega
        · omega
        · simp; omega
        intro g cap' w' ho' hg' hv' _
        have HO := Lib.hid ho'
        have HG := Lib.hid hg'
        have HV := Lib.hid hv'
        clear ho' hg' hv'
        go_wp2
        go_ret
        rw [HR.out]
        refine ⟨.slice (some ⟨g, 0, none⟩) (b.length + 1) cap', rfl, by simpa [OwnsB] using HO.out, ?_, ?_, ?_, fun h => by simp at h⟩
        · exact (X1.out.alloc _).kept (Kept.of_grown HG.out) (HNX.out xb · rfl)
        · exact ((K1.out.mono (fun _ _ h => .inl h)).alloc _).grown HG.out (fun k hk _ => .inr hk)
        · intro k hk
          simp only [Value.ownBlock, Option.some.injEq] at hk
          subst hk
          rcases HV.out with h | h
          · exact .inl h
          · exact .inr (by have := K1.out.size; omega)

end Go.Proofs.YtfkdeknblbmibaaGreatDoor
