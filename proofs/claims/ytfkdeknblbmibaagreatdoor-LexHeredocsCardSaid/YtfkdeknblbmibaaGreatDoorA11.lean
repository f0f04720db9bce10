/-
  lex: doubled and escape are walked, as 'doubledS' and 'escapeS' say.
-/
import Derived.Test.YtfkdeknblbmibaaGreatDoorA10
namespace Go.Proofs.YtfkdeknblbmibaaGreatDoor
open Go.RowKit

/-- A slice of one part, just made. -/
theorem OwnsP.one (w : World) (B : Nat) (hB : B ≤ w.heap.size) (p : Pt) (h5 : p.word = (0, [])) (h6 : p.more = (0, [])) (h7 : p.sums = (0, [])) (h8 : p.list = (0, [])) :
    OwnsP (w.alloc (.cells #[.int .i64 p.kind, .string p.text, .string p.name, .string p.op, .bool p.quoted, .slice none 0 0, .slice none 0 0, .slice none 0 0, .slice none 0 0, .int .i64 p.place] 32)) B (.slice (some ⟨w.heap.size, 0, none⟩) 1 1) [p] := by
  refine ⟨[.int .i64 p.kind, .string p.text, .string p.name, .string p.op, .bool p.quoted, .slice none 0 0, .slice none 0 0, .slice none 0 0, .slice none 0 0, .int .i64 p.place], ⟨rfl, .inr ⟨w.heap.size, 1, _, rfl, hB, heap_alloc_new _ _, Nat.le_refl _, by decide, rfl, rfl⟩⟩, ?_⟩
  exact RepL.atoms (by rw [h5]; exact Rep.nil _ _) (by rw [h6]; exact Rep.nil _ _) (by rw [h7]; exact Rep.nil _ _) (by rw [h8]; exact Rep.nil _ _)

theorem flush_sum (out : List Pt) (b : List UInt8) : tsum (flushS out b) = tsum out + b.length ∧ (flushS out b).length ≤ out.length + 1 := by
  unfold flushS
  split
  · rename_i h; subst h; simp
  · rw [tsum_append]
    refine ⟨?_, by simp⟩
    have : tsum [{ kind := 1, text := ⟨b.toArray⟩, quoted := true }] = b.length := by
      show ByteArray.size ⟨b.toArray⟩ + 0 = b.length
      rfl
    rw [this]

theorem within_bounds {s : ByteArray} {dol : Nat → R Pt} {ends : ByteArray} (hd : ∀ a p a', dol a = .ok p a' → a < a' ∧ a' ≤ s.size ∧ p.text.size + a ≤ a' ∧ (p.kind = 1 → 0 < p.text.size)) :
    ∀ (k a : Nat) (out : List Pt) (b : List UInt8) (l : List Pt) (a' : Nat), withinS s dol ends k a out b = .ok l a' → a ≤ a' ∧ a' < s.size ∧ tsum l + a ≤ tsum out + b.length + a' ∧ l.length + 2 * a ≤ out.length + 1 + 2 * a' := by
  intro k
  induction k with
  | zero => intro a out b l a' h; cases h
  | succ k ih =>
    intro a out b l a' h
    rw [withinS] at h
    split at h
    · cases h
    · rename_i hlt
      split at h
      · cases h
        have := flush_sum out b
        omega
      · split at h
        · have h1 := ih _ _ _ _ _ h
          have h2 := slash_bounds (s := s) (a := a) (by omega)
          rw [List.length_append] at h1
          omega
        · split at h
          · cases hda : dol a with
            | out => rw [hda] at h; cases h
            | bad a1 e1 => rw [hda] at h; cases h
            | ok p a1 =>
              rw [hda] at h
              have h0 := hd a p a1 hda
              simp only at h
              split at h
              · have h1 := ih _ _ _ _ _ h
                rw [List.length_append] at h1
                have : p.text.data.toList.length = p.text.size := by simp
                omega
              · have h1 := ih _ _ _ _ _ h
                have h2 := flush_sum out b
                rw [tsum_append, List.length_append] at h1
                simp only [tsum, List.map_cons, List.map_nil, List.sum_cons, List.sum_nil, List.length_cons, List.length_nil] at h1 h2
                unfold tsum
                omega
          · split at h
            · cases h
            · have h1 := ih _ _ _ _ _ h
              rw [List.length_append] at h1
              simp only [List.length_cons, List.length_nil] at h1
              omega

set_option maxRecDepth 100000 in
set_option maxHeartbeats 1000000 in
theorem doubled_any (xb : Nat) (s : ByteArray) (a : Nat) (bash : Bool) (deep : Int) (dol : Nat → R Pt) (w : World) (hs : s.size ≤ 100000) (ha : a < s.size) (hx : ScanAt w xb s a bash deep)
    (hd : DolOK xb s bash deep true dol) (hr : doubledS s dol a ≠ .out) :
    Calls Tryz.prog 35 #[.pointer (some ⟨xb, 0, none⟩)] w (PartsPost xb s bash deep w (doubledS s dol a)) := by
  have c1 := hx.c1
  have f1 := hx.f 1
  have hxl := hx.lt
  obtain ⟨wr, hwr⟩ : ∃ wr, withinS s dol ⟨#[34]⟩ (s.size + 1 - a) (a + 1) [] [] = wr := ⟨_, rfl⟩
  have hwb := fun l a' => within_bounds (ends := ⟨#[34]⟩) hd.2 (s.size + 1 - a) (a + 1) [] [] l a'
  have hcall := fun (wx : World) (hx' : ScanAt wx xb s (a + 1) bash deep) => within_any xb s (a + 1) bash deep dol ⟨#[34]⟩ (s.size + 1 - a) wx hs (by omega) hx' hd
  unfold doubledS at hr ⊢
  rw [hwr] at hr ⊢
  rw [hwr] at hcall hwb
  have HWB := Lib.hid hwb
  clear hwb
  have HX := Lib.hid hx
  have HCA := Lib.hid hcall
  have HR := Lib.hid hr
  clear hx hd hwr hcall hr
  go_enter Tryz.func35, Tryz.ntmps35
  go_upto_region 2 with fail
  generalize hwq : World.setCell _ _ _ = wq
  have k1 : Kept (fun k => k = xb) w wq := by rw [← hwq]; exact kept_at (Kept.refl _ _) 1 _ (fun _ => rfl)
  have x1 : ScanAt wq xb s (a + 1) bash deep := by rw [← hwq]; exact HX.out.set1 (a + 1)
  clear hwq
  have K1 := Lib.hid k1
  have X1 := Lib.hid x1
  clear k1 x1 c1 f1
  cases wr with
  | out => exact (HR.out rfl).elim
  | bad a' er =>
    go_wp2_with fail
    refine (HCA.out wq X1.out (by simp)).mono ?_
    rintro e w3 ⟨he, k3⟩
    unfold Faults at he
    subst he
    exact ⟨rfl, rfl, K1.out.next k3⟩
  | ok l a' =>
    go_wp2_with fail
    refine (HCA.out wq X1.out (by simp)).mono ?_
    rintro e w3 ⟨v', rfl, o3, x3, k3⟩
    obtain ⟨ao, cao, hv⟩ := o3.len
    subst hv
    have d1 := x3.c1
    have g1 := x3.f 1
    have hsz := K1.out.size
    have hsz3 := k3.size
    have X3 := Lib.hid x3
    have O3 := Lib.hid o3
    have K3 := Lib.hid k3
    have hab := (HWB.out l a' rfl).2.1
    clear x3 o3 k3
    go_upto_region 4 with fail
    generalize hwq : World.setCell _ _ _ = w4
    have k4 : Kept (fun k => k = xb) w3 w4 := by rw [← hwq]; exact kept_at (Kept.refl _ _) 1 _ (fun _ => rfl)
    have x4 : ScanAt w4 xb s (a' + 1) bash deep := by rw [← hwq]; exact X3.out.set1 (a' + 1)
    have o4 := O3.out.kept k4 (fun g _ hb e => by omega)
    clear hwq
    have K4 := Lib.hid ((K1.out.next K3.out).next k4)
    have X4 := Lib.hid x4
    have O4 := Lib.hid o4
    have hsz4 := k4.size
    clear k4 x4 o4
    by_cases hl : l = []
    · subst hl
      go_wp2
      go_ret
      exact ⟨_, rfl, OwnsP.one w4 w.heap.size (by omega) { kind := 1, text := ⟨#[]⟩, quoted := true } rfl rfl rfl rfl, X4.out.alloc _, K4.out.alloc _⟩
    · have hll : 0 < l.length := List.length_pos_iff.2 hl
      have bl : ((l.length : Int) == 0) = false := by simp; omega
      have HL := Lib.hid hl
      clear hl
      go_wp2
      go_ret
      refine ⟨_, rfl, ?_, X4.out, K4.out⟩
      have o5 := O4.out.mono (B' := w.heap.size) (by omega)
      exact o5

/-- What escape answers: the parts that it was handed, gone on. -/
def EscPost (B xb : Nat) (s : ByteArray) (bash : Bool) (deep : Int) (v : Value) (w : World) (r : R (List Pt)) (e : Ending) (w' : World) : Prop :=
  match r with
  | .ok l a' => ∃ v', e = .returned v' ∧ OwnsP w' B v' l ∧ ScanAt w' xb s a' bash deep ∧ Kept (fun k => k = xb ∨ v.ownBlock = some k) w w'
  | .bad a' er => Faults a' er e ∧ Kept (fun k => k = xb ∨ v.ownBlock = some k) w w'
  | .out => True

set_option maxRecDepth 100000 in
set_option maxHeartbeats 1000000 in
theorem escape_any (B xb : Nat) (s : ByteArray) (a : Nat) (bash : Bool) (deep : Int) (v : Value) (out : List Pt) (w : World) (hs : s.size ≤ 100000) (ha : a < s.size) (hx : ScanAt w xb s a bash deep) (hB : B ≤ w.heap.size) (hxB : xb < B)
    (ho : OwnsP w B v out) (hl : out.length ≤ 900000) (ht : tsum out ≤ 900000) :
    Calls Tryz.prog 36 #[.pointer (some ⟨xb, 0, none⟩), v] w (EscPost B xb s bash deep v w (escapeS s a out)) := by
  have c1 := hx.c1
  have f1 := hx.f 1
  have hxl := hx.lt
  obtain ⟨r, hr⟩ : ∃ r, r = escapeS s a out := ⟨_, rfl⟩
  rw [← hr]
  unfold escapeS at hr
  obtain ⟨c, hc⟩ : ∃ c, c = oct s (a + 1) := ⟨_, rfl⟩
  rw [← hc] at hr
  have HX := Lib.hid hx
  have HO := Lib.hid ho
  clear hx ho
  go_enter Tryz.func36, Tryz.ntmps36
  go_upto_region 2 with fail
  generalize hwq : World.setCell _ _ _ = wq
  have k1 : Kept (fun k => k = xb) w wq := by rw [← hwq]; exact kept_at (Kept.refl _ _) 1 _ (fun _ => rfl)
  have x1 : ScanAt wq xb s (a + 1) bash deep := by rw [← hwq]; exact HX.out.set1 (a + 1)
  clear hwq c1 f1
  have q0 := x1.c0
  have q1 := x1.c1
  have K1 := Lib.hid k1
  have X1 := Lib.hid x1
  clear k1 x1
  by_cases hge : s.size ≤ a + 1
  · rw [if_pos hge] at hr
    have HR := Lib.hid hr
    clear hr hc
    go_wp2_with fail
    refine (more_no xb s (a + 1) bash deep wq hge X1.out).mono ?_
    rintro e w1 ⟨he, m, rfl⟩
    unfold Faults at he
    subst he
    refine ⟨rfl, ?_⟩
    rw [HR.out]
    exact ⟨rfl, (K1.out.mono (fun _ _ h => .inl h)).drewN m⟩
  · rw [if_neg hge] at hr
    have hix := ixAt (s := s) (i := ((a + 1 : Nat) : Int)) (k := a + 1) rfl (by omega)
    rw [← hc] at hix
    have hix2 := ixAt (s := s) (i := ((a : Int) + 1)) (k := a + 1) (by omega) (by omega)
    rw [← hc] at hix2
    have HR := Lib.hid hr
    clear hr hc
    go_wp2_with fail
    refine (more_yes xb s (a + 1) bash deep wq (by omega) X1.out).mono ?_
    rintro e w1 ⟨rfl, m, rfl⟩
    go_wp2
    go_quiet (fail)
    go_upto_region 4 with fail
    generalize hwq : World.drewN _ _ = w2
    have kq : Kept (fun _ => False) wq w2 := by rw [← hwq]; exact ((Kept.refl _ _).drewN _).drewN _
    have x2 := X1.out.kept kq (fun f => f)
    have k2 := K1.out.trans kq (fun _ _ f => f.elim)
    clear hwq kq q0 q1
    have q0 := x2.c0
    have q1 := x2.c1
    have g1 := x2.f 1
    have K2 := Lib.hid k2
    have X2 := Lib.hid x2
    have hsz := k2.size
    clear k2 x2
    by_cases h0 : c.toNat = 0
    · have hr := HR.out
      rw [if_pos h0] at hr
      have HR2 := Lib.hid hr
      have b0 : ((c.toNat : Int) != 0) = false := by simp [h0]
      clear hr h0
      go_wp2_with fail
      refine (need_no _ _ _).mono ?_
      rintro e w3 ⟨he, rfl⟩
      unfold Faults at he
      subst he
      refine ⟨rfl, ?_⟩
      rw [HR2.out]
      exact ⟨by simp [Faults], K2.out.mono (fun _ _ h => .inl h)⟩
    · have hr := HR.out
      rw [if_neg h0] at hr
      have b0 : ((c.toNat : Int) != 0) = true := by simpa using h0
      clear h0
      by_cases h10 : c.toNat = 10
      · rw [if_pos h10] at hr
        have HR2 := Lib.hid hr
        have b10 : ((c.toNat : Int) == 10) = true := by simp [h10]
        clear hr h10
        go_wp2_with fail
        refine (need_yes _ _ _).mono ?_
        rintro e w3 ⟨rfl, rfl⟩
        go_wp2
        go_ret
        rw [HR2.out]
        refine ⟨v, rfl, ?_, ?_, kept_at (K2.out.mono (fun _ _ h => .inl h)) 1 _ (fun _ => .inl rfl)⟩
        · exact HO.out.kept (kept_at K2.out 1 _ (fun _ => rfl)) (fun g _ hb e => by omega)
        · have e2 : (a : Int) + 1 + 1 = ((a + 2 : Nat) : Int) := by omega
          have := X2.out.set1 (a + 2)
          rw [← e2] at this
          exact this
      · rw [if_neg h10] at hr
        have HR2 := Lib.hid hr
        have b10 : ((c.toNat : Int) == 10) = false := by simp; omega
        clear hr h10
        go_wp2_with fail
        refine (need_yes _ _ _).mono ?_
        rintro e w3 ⟨rfl, rfl⟩
        go_upto_region 8 with fail
        generalize hwq : World.setCell _ _ _ = w4
        have k4 : Kept (fun k => k = xb) w w4 := by rw [← hwq]; exact kept_at K2.out 1 _ (fun _ => rfl)
        have x4 : ScanAt w4 xb s (a + 2) bash deep := by
          have e2 : (a : Int) + 1 + 1 = ((a + 2 : Nat) : Int) := by omega
          have := X2.out.set1 (a + 2)
          rw [← hwq]
          rw [← e2] at this
          exact this
        have o4 := HO.out.kept k4 (fun g _ hb e => by omega)
        clear hwq q0 q1 g1
        have hcb := bytes_one c
        have hbl := o4.block
        have hbs := k4.size
        have one := Rep.mono (A' := fun g => B ≤ g ∧ v.ownBlock ≠ some g) (fun g _ (hg : w4.heap.size + 1 ≤ g) => ⟨by omega, fun e => by have := (hbl g e).2; omega⟩) (Owns.rep (OwnsP.one (w4.alloc (.cells #[.int .u8 c.toNat] 5)) (w4.heap.size + 1) (by simp) { kind := 1, text := ⟨#[c]⟩, quoted := true } rfl rfl rfl rfl) (by simp))
        rw [show (w4.alloc (.cells #[.int .u8 c.toNat] 5)).heap.size = w4.heap.size + 1 by simp] at one
        have ONE := Lib.hid one
        clear one hbl
        have K4 := Lib.hid k4
        have X4 := Lib.hid x4
        have O4 := Lib.hid o4
        have hsz4 := k4.size
        clear k4 x4 o4
        go_wp2_with fail
        refine (joined_any B v _ out [{ kind := 1, text := ⟨#[c]⟩, quoted := true }] _ (by simp; omega) (by simp; omega) (by show tsum out + 1 ≤ _; omega) ((O4.out.kept ((Kept.refl (fun _ => False) _).alloc _) (fun _ _ _ f => f)).kept ((Kept.refl (fun _ => False) _).alloc _) (fun _ _ _ f => f)) ONE.out).mono ?_
        rintro e w5 ⟨v', rfl, o5, k5⟩
        go_wp2
        go_ret
        rw [HR2.out]
        have k6 := (((K4.out.alloc (.cells #[.int .u8 c.toNat] 5)).alloc (.cells #[.int .i64 1, .string ⟨#[c]⟩, .string ⟨#[]⟩, .string ⟨#[]⟩, .bool true, .slice none 0 0, .slice none 0 0, .slice none 0 0, .slice none 0 0, .int .i64 0] 32)).mono (S' := fun k => k = xb ∨ v.ownBlock = some k) (fun _ _ h => .inl h)).trans k5 (fun _ _ h => .inr h)
        have x6 := ((X4.out.alloc (.cells #[.int .u8 c.toNat] 5)).alloc (.cells #[.int .i64 1, .string ⟨#[c]⟩, .string ⟨#[]⟩, .string ⟨#[]⟩, .bool true, .slice none 0 0, .slice none 0 0, .slice none 0 0, .slice none 0 0, .int .i64 0] 32)).kept k5 (fun e => by have := (O4.out.block _ e).1; omega)
        exact ⟨v', rfl, o5, x6, k6⟩

end Go.Proofs.YtfkdeknblbmibaaGreatDoor
