/-
  lex: dollar is walked where no parenthesis, no brace, and in bash unquoted no single quote stands behind it: it answers 'dollarS'.
-/
import Derived.Test.YtfkdeknblbmibaaGreatDoorA13
namespace Go.Proofs.YtfkdeknblbmibaaGreatDoor
open Go.RowKit

/-- What begins with $ (where no (, { or ' stands behind it). -/
def dollarS (s : ByteArray) (bash q : Bool) (a : Nat) : R Pt :=
  if s.size ≤ a ∨ (oct s (a + 1)).toNat = 40 ∨ (oct s (a + 1)).toNat = 123 ∨ (bash = true ∧ q = false ∧ (oct s (a + 1)).toNat = 39) then .out
  else match nameR s (a + 1) false with
    | some n => .ok { kind := 2, text := ⟨#[]⟩, name := s.extract (a + 1) (a + 1 + n), quoted := q } (a + 1 + n)
    | none => .ok { kind := 1, text := s.extract a (a + 1), quoted := q } (a + 1)

theorem nameR_le {s : ByteArray} {a n : Nat} (h : nameR s a false = some n) (ha : a ≤ s.size) : a + n ≤ s.size := by
  unfold nameR at h
  have hr := nameRun_le s a
  split at h
  · rename_i hs
    cases h
    rcases Nat.lt_or_ge a s.size with h' | h'
    · omega
    · rw [oct_out h'] at hs
      exact absurd hs (by decide)
  · split at h
    · rename_i h2
      simp at h
      omega
    · split at h
      · cases h; omega
      · cases h

theorem dollar_bounds {s : ByteArray} {bash q : Bool} (a : Nat) (p : Pt) (a' : Nat) (h : dollarS s bash q a = .ok p a') : a < a' ∧ a' ≤ s.size ∧ p.text.size + a ≤ a' ∧ (p.kind = 1 → 0 < p.text.size) := by
  unfold dollarS at h
  split at h
  · cases h
  · rename_i hno
    have ha : a < s.size := by
      rcases Nat.lt_or_ge a s.size with h' | h'
      · exact h'
      · exact (hno (.inl h')).elim
    cases hn : nameR s (a + 1) false with
    | some n =>
      rw [hn] at h
      cases h
      have := nameR_le hn (by omega)
      have e : ByteArray.size (⟨#[]⟩ : ByteArray) = 0 := rfl
      simp only [e]
      refine ⟨by omega, by omega, by omega, fun h => by cases h⟩
    | none =>
      rw [hn] at h
      cases h
      simp only [ByteArray.size_extract]
      omega

theorem prefix_no {s : ByteArray} {a : Nat} {c : UInt8} {l : List UInt8} (h : (oct s a).toNat ≠ c.toNat) : Lib.hasPrefix (s.data.toList.drop a) (c :: l) = false := by
  cases hd : s.data.toList.drop a with
  | nil => rfl
  | cons d t =>
    have : oct s a = d := by
      unfold oct
      have := drop_getD s.data.toList a 0
      rw [hd] at this
      simpa using this.symm
    rw [this] at h
    have hne : (c == d) = false := by
      simp
      intro e
      exact h (by rw [e])
    simp [Lib.hasPrefix, List.isPrefixOf, hne]

set_option maxRecDepth 100000 in
set_option maxHeartbeats 4000000 in
theorem dollar_any (xb : Nat) (s : ByteArray) (a : Nat) (bash q : Bool) (deep : Int) (w : World) (hs : s.size ≤ 100000) (ha : a < s.size) (hx : ScanAt w xb s a bash deep) (hr : dollarS s bash q a ≠ .out) :
    Calls Tryz.prog 37 #[.pointer (some ⟨xb, 0, none⟩), .bool q] w (PartPost xb s bash deep w (dollarS s bash q a)) := by
  obtain ⟨r, hre⟩ : ∃ r, dollarS s bash q a = r := ⟨_, rfl⟩
  rw [hre] at hr ⊢
  unfold dollarS at hre
  have hno : ¬ (s.size ≤ a ∨ (oct s (a + 1)).toNat = 40 ∨ (oct s (a + 1)).toNat = 123 ∨ (bash = true ∧ q = false ∧ (oct s (a + 1)).toNat = 39)) := by
    intro h
    rw [if_pos h] at hre
    exact hr hre.symm
  rw [if_neg hno] at hre
  have n40 : (oct s (a + 1)).toNat ≠ 40 := fun h => hno (.inr (.inl h))
  have n123 : (oct s (a + 1)).toNat ≠ 123 := fun h => hno (.inr (.inr (.inl h)))
  have n39 : bash = true → q = false → (oct s (a + 1)).toNat ≠ 39 := fun h1 h2 h => hno (.inr (.inr (.inr ⟨h1, h2, h⟩)))
  have T1 := Lib.hid (fun wx (hx' : ScanAt wx xb s (a + 1) bash deep) => took_no xb s ⟨#[40, 40]⟩ (a + 1) bash deep wx (by omega) hx' (prefix_no (c := 40) (l := [40]) n40))
  have T2 := Lib.hid (fun wx (hx' : ScanAt wx xb s (a + 1) bash deep) => took_no xb s ⟨#[40]⟩ (a + 1) bash deep wx (by omega) hx' (prefix_no (c := 40) (l := []) n40))
  have T3 := Lib.hid (fun wx (hx' : ScanAt wx xb s (a + 1) bash deep) => took_no xb s ⟨#[123]⟩ (a + 1) bash deep wx (by omega) hx' (prefix_no (c := 123) (l := []) n123))
  have T4 := Lib.hid (fun wx (hx' : ScanAt wx xb s (a + 1) bash deep) => has_any xb s ⟨#[39]⟩ (a + 1) bash deep wx (by omega) hx')
  have T5 := Lib.hid (fun h1 h2 => prefix_no (s := s) (a := a + 1) (c := 39) (l := []) (n39 h1 h2))
  have TN := Lib.hid (fun wx (hx' : ScanAt wx xb s (a + 1) bash deep) => scan_name xb s (a + 1) false bash deep wx (by omega) (by omega) hx')
  have HRE := Lib.hid hre
  have HX := Lib.hid hx
  have c1 := hx.c1
  have f1 := hx.f 1
  have hxl := hx.lt
  have hw1 : IntKind.i64.wrap ((a : Int) + 1) = ((a + 1 : Nat) : Int) := by rw [IntWalk.i64_in _ (by omega)]; omega
  clear hre hr hno n40 n123 n39 hx
  go_enter Tryz.func37, Tryz.ntmps37
  go_upto_region 1 with fail
  generalize hwq : World.alloc _ _ = w1
  have hX1 : w1.heap[w.heap.size]? = some (.cells #[.pointer (some ⟨xb, 0, none⟩)] 50 (0, 0)) := by
    rw [← hwq]
    exact heap_alloc_keep (heap_alloc_keep (heap_alloc_new _ _) _) _
  have hQ1 : w1.heap[w.heap.size + 1]? = some (.cells #[.bool q] 4 (0, 0)) := by
    rw [← hwq]
    have := heap_alloc_new (w.alloc (.cells #[.pointer (some ⟨xb, 0, none⟩)] 50)) (.cells #[.bool q] 4)
    exact heap_alloc_keep (by simpa using this) _
  have hP1 : w1.heap[w.heap.size + 1 + 1]? = some (.cells partZ 32 (0, 0)) := by
    rw [← hwq]
    rw [show w.heap.size + 1 + 1 = ((w.alloc (.cells #[.pointer (some ⟨xb, 0, none⟩)] 50)).alloc (.cells #[.bool q] 4)).heap.size by simp]
    exact heap_alloc_new _ _
  have x1 : ScanAt w1 xb s a bash deep := by rw [← hwq]; exact ((HX.out.alloc _).alloc _).alloc _
  have k1 : Kept (fun _ => False) w w1 := by rw [← hwq]; exact (((Kept.refl _ _).alloc _).alloc _).alloc _
  clear hwq c1 f1
  have cX := cell_of_one hX1
  have cQ := cell_of_one hQ1
  have c1 := x1.c1
  have f1 := x1.f 1
  have hl1 := x1.lt
  have HX1 := Lib.hid hX1
  have HQ1 := Lib.hid hQ1
  have HP1 := Lib.hid hP1
  have HS1 := Lib.hid x1
  have HK1 := Lib.hid k1
  clear hX1 hQ1 hP1 x1 k1
  go_upto_region 3 with fail
  generalize hwq : World.setCell _ _ _ = w2
  have k2 : Kept (fun k => k = xb) w1 w2 := by rw [← hwq]; exact kept_at (Kept.refl _ _) 1 _ (fun _ => rfl)
  have x2 : ScanAt w2 xb s (a + 1) bash deep := by rw [← hwq]; exact HS1.out.set1 (a + 1)
  have hX2 := (k2.block _ (heap_lt HX1.out) (by omega)).trans HX1.out
  have hQ2 := (k2.block _ (heap_lt HQ1.out) (by omega)).trans HQ1.out
  have hP2 := (k2.block _ (heap_lt HP1.out) (by omega)).trans HP1.out
  have kk2 : Kept (fun k => k = xb) w w2 := (HK1.out.mono (S' := fun k => k = xb) (fun _ _ f => f.elim)).next k2
  clear hwq cX cQ c1 f1 hl1 HX1 HQ1 HP1 HS1 HK1 k2
  have cX := cell_of_one hX2
  have cQ := cell_of_one hQ2
  have c0 := x2.c0
  have c1 := x2.c1
  have c2 := x2.c2
  have hlX := heap_lt hX2
  have hlQ := heap_lt hQ2
  have hlP := heap_lt hP2
  have hl2 := x2.lt
  have HX2 := Lib.hid hX2
  have HQ2 := Lib.hid hQ2
  have HP2 := Lib.hid hP2
  have HS2 := Lib.hid x2
  have HK2 := Lib.hid kk2
  clear hX2 hQ2 hP2 x2 kk2
  go_wp2_with fail
  refine (T1.out _ HS2.out).mono ?_
  rintro e w3 ⟨rfl, m1, rfl⟩
  go_wp2_with fail
  refine (T2.out _ (HS2.out.drewN _)).mono ?_
  rintro e w3 ⟨rfl, m2, rfl⟩
  go_wp2_with fail
  refine (T3.out _ (HS2.out.drewN _)).mono ?_
  rintro e w3 ⟨rfl, m3, rfl⟩
  go_upto_region 13 with fail
  go_cut [58] (fun v wx => v = .bool false ∧ Kept (fun _ => False) w2 wx)
  case first =>
    cases bash with
    | false =>
      go_wp2_with fail
      go_meet
      exact ⟨rfl, (Kept.refl _ _).drewN _⟩
    | true =>
      cases q with
      | true =>
        go_wp2_with fail
        go_meet
        exact ⟨rfl, (Kept.refl _ _).drewN _⟩
      | false =>
        go_wp2_with fail
        refine (T4.out _ (HS2.out.drewN _)).mono ?_
        rintro e w4 ⟨rfl, m4, rfl⟩
        rw [T5.out (by trivial) (by trivial)]
        go_wp2_with fail
        go_meet
        exact ⟨rfl, (Kept.refl _ _).drewN _⟩
  case rest =>
  obtain ⟨rfl, k3⟩ := hcut
  have x3 := HS2.out.kept k3 (fun f => f)
  have hX3 := (k3.block _ hlX (fun f => f)).trans HX2.out
  have hQ3 := (k3.block _ hlQ (fun f => f)).trans HQ2.out
  have hP3 := (k3.block _ hlP (fun f => f)).trans HP2.out
  have kk3 : Kept (fun k => k = xb) w wc := HK2.out.trans k3 (fun _ _ f => f.elim)
  clear cX cQ c0 c1 c2 hlX hlQ hlP hl2 HX2 HQ2 HP2 HS2 HK2 k3
  have cX := cell_of_one hX3
  have cQ := cell_of_one hQ3
  have hlX := heap_lt hX3
  have hlQ := heap_lt hQ3
  have hlP := heap_lt hP3
  have hl2 := x3.lt
  have HX3 := Lib.hid hX3
  have HQ3 := Lib.hid hQ3
  have HP3 := Lib.hid hP3
  have HS3 := Lib.hid x3
  have HK3 := Lib.hid kk3
  clear hX3 hQ3 hP3 x3 kk3
  have tn := TN.out wc HS3.out
  have hre := HRE.out
  obtain ⟨rn, hrn⟩ : ∃ rn, nameR s (a + 1) false = rn := ⟨_, rfl⟩
  rw [hrn] at hre tn
  have TN2 := Lib.hid tn
  have HRE2 := Lib.hid hre
  clear hre hrn tn TN HRE
  cases rn with
  | some n =>
    go_wp2_with fail
    refine TN2.out.mono ?_
    rintro e w4 ⟨rfl, x4, k4⟩
    have hX4 := (k4.block _ hlX (by omega)).trans HX3.out
    have hQ4 := (k4.block _ hlQ (by omega)).trans HQ3.out
    have hP4 := (k4.block _ hlP (by omega)).trans HP3.out
    have cX4 := cell_of_one hX4
    have cQ4 := cell_of_one hQ4
    obtain ⟨r0, r1, r2, r3, r4, r5, r6, r7, r8, r9⟩ := partZ_cells hP4
    have gr := free_at hP4
    have hl4 := heap_lt hP4
    have X4 := Lib.hid x4
    have K4 := Lib.hid (HK3.out.next k4)
    have HP4 := Lib.hid hP4
    clear x4 k4 hX4 hQ4 hP4
    go_wp2
    refine bodyPost_ret (results_part rfl rfl (ten_set HP4.out _ _ _ _ _ _ _ _ _ _)) rfl ?_
    rw [← HRE2.out]
    exact ⟨_, _, _, _, rfl, Rep.nil _ _, Rep.nil _ _, Rep.nil _ _, Rep.nil _ _, ten_scan _ _ _ _ _ _ _ _ _ _ X4.out (by omega), ten_kept _ _ _ _ _ _ _ _ _ _ K4.out (fun h => by omega)⟩
  | none =>
    go_wp2_with fail
    refine TN2.out.mono ?_
    rintro e w4 ⟨rfl, k4⟩
    have hX4 := (k4.block _ hlX (fun f => f)).trans HX3.out
    have hQ4 := (k4.block _ hlQ (fun f => f)).trans HQ3.out
    have hP4 := (k4.block _ hlP (fun f => f)).trans HP3.out
    have x4 := HS3.out.kept k4 (fun f => f)
    have cX4 := cell_of_one hX4
    have cQ4 := cell_of_one hQ4
    have d0 := x4.c0
    have d1 := x4.c1
    obtain ⟨r0, r1, r2, r3, r4, r5, r6, r7, r8, r9⟩ := partZ_cells hP4
    have gr := free_at hP4
    have hl4 := heap_lt hP4
    have hl5 := x4.lt
    have X4 := Lib.hid x4
    have K4 := Lib.hid (HK3.out.trans k4 (fun _ _ f => f.elim))
    have HP4 := Lib.hid hP4
    have hsl := slAt (s := s) (i := (a : Int)) (j := (a : Int) + 1) (a := a) (b := a + 1) (by omega) (by omega) (by omega) (by omega)
    clear x4 k4 hX4 hQ4 hP4
    go_upto_region 18 with fail
    refine wp_region_still_tail 12 (by kernel_rfl) (by kernel_rfl) ?_
    simp only [List.take_succ_cons, List.take_zero, List.drop_succ_cons, List.drop_zero]
    repeat still_step
    refine wpStill_nil ?_
    generalize hwr : World.mk _ _ _ _ _ = w5
    have hP5 : w5.heap[w.heap.size + 1 + 1]? = some (.cells partZ 32 (0, 0)) := by rw [← hwr]; exact HP4.out
    have x5 : ScanAt w5 xb s (a + 1) bash deep := by rw [← hwr]; exact X4.out
    have K5 := Lib.hid (show Kept (fun k => k = xb) w w5 by rw [← hwr]; exact ⟨K4.out.os, K4.out.tape, K4.out.output, K4.out.size, K4.out.block⟩)
    have X5 := Lib.hid x5
    have HP5 := Lib.hid hP5
    clear hwr r0 r1 r2 r3 r4 r5 r6 r7 r8 r9 gr hl4 hl5 d0 d1 cX4 cQ4
    obtain ⟨r0, r1, r2, r3, r4, r5, r6, r7, r8, r9⟩ := partZ_cells hP5
    have gr := free_at hP5
    have hl4 := heap_lt hP5
    clear x5 hP5
    go_wp2
    refine bodyPost_ret (results_part rfl rfl (ten_set HP5.out _ _ _ _ _ _ _ _ _ _)) rfl ?_
    rw [← HRE2.out]
    exact ⟨_, _, _, _, rfl, Rep.nil _ _, Rep.nil _ _, Rep.nil _ _, Rep.nil _ _, ten_scan _ _ _ _ _ _ _ _ _ _ X5.out (by omega), ten_kept _ _ _ _ _ _ _ _ _ _ K5.out (fun h => by omega)⟩

theorem dollar_ok (xb : Nat) (s : ByteArray) (bash q : Bool) (deep : Int) (hs : s.size ≤ 100000) : DolOK xb s bash deep q (dollarS s bash q) :=
  ⟨fun a w ha _ hr hx => dollar_any xb s a bash q deep w hs ha hx hr, fun a p a' h => dollar_bounds a p a' h⟩

end Go.Proofs.YtfkdeknblbmibaaGreatDoor
