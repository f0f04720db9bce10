/-
  lex: within is walked: parts up to one of some octets, as 'withinS' says, for any dollar that is met.
-/
import Derived.Test.YtfkdeknblbmibaaGreatDoorA9
namespace Go.Proofs.YtfkdeknblbmibaaGreatDoor
open Go.RowKit

theorem OwnsP.mono {w : World} {B B' : Nat} {v : Value} {l : List Pt} (h : OwnsP w B v l) (hB : B' ≤ B) : OwnsP w B' v l := by
  obtain ⟨xs, h1, h2⟩ := h
  refine ⟨xs, ⟨h1.1, ?_⟩, h2.mono (fun _ _ ha => ⟨Nat.le_trans hB ha.1, ha.2⟩)⟩
  rcases h1.2 with h | ⟨g, cap, cur, a1, a2, a3⟩
  · exact .inl h
  · exact .inr ⟨g, cap, cur, a1, Nat.le_trans hB a2, a3⟩

/-- The parts that the call builds, apart from the blocks of X. -/
def OwnsX (w : World) (B : Nat) (v : Value) (l : List Pt) (X : Nat → Prop) : Prop :=
  (∀ k, v.ownBlock = some k → ¬ X k) ∧ ∃ xs, w.ownsRow B 32 10 v l.length xs ∧ RepL w (fun g => (B ≤ g ∧ v.ownBlock ≠ some g) ∧ ¬ X g) (cellsOf l) xs

theorem OwnsX.own {w : World} {B : Nat} {v : Value} {l : List Pt} {X : Nat → Prop} (h : OwnsX w B v l X) : OwnsP w B v l := by
  obtain ⟨_, xs, h1, h2⟩ := h
  exact ⟨xs, h1, h2.mono (fun _ _ ha => ha.1)⟩

theorem OwnsX.of {w : World} {B : Nat} {v : Value} {l : List Pt} {X : Nat → Prop} (h : OwnsP w B v l) (hX : ∀ k, ¬ X k) : OwnsX w B v l X := by
  obtain ⟨xs, h1, h2⟩ := h
  exact ⟨fun k _ => hX k, xs, h1, h2.mono (fun k _ ha => ⟨ha, hX k⟩)⟩

/-- The blocks of X, and new ones, may change. -/
theorem OwnsX.keep {w w' : World} {B : Nat} {v : Value} {l : List Pt} {S X X' : Nat → Prop} (h : OwnsX w B v l X) (k : Kept S w w') (hS : ∀ i, i < w.heap.size → B ≤ i → S i → X i) (hX : ∀ i, i < w.heap.size → X' i → X i) : OwnsX w' B v l X' := by
  obtain ⟨h0, xs, h1, h2⟩ := h
  refine ⟨fun i hi hx => h0 i hi (hX i (h1.lt i hi).2 hx), xs, Owns.row_of k h1 (fun g hg hs => h0 g hg (hS g (h1.lt g hg).2 (h1.lt g hg).1 hs)), ?_⟩
  refine RepL.imp (fun g hg ha => ⟨⟨ha.1, fun hx => ha.2 (hX g hg hx)⟩, k.block g hg (fun hs => ha.2 (hS g hg ha.1.1 hs)), Nat.lt_of_lt_of_le hg k.size⟩) h2

/-- What holds at each place of within's loop. -/
structure WBase (xb ob bb : Nat) (s : ByteArray) (a : Nat) (bash : Bool) (deep : Int) (B : Nat) (out : List Pt) (b : List UInt8) (v vb : Value) (w wr : World) : Prop where
  scan : ScanAt wr xb s a bash deep
  ho : wr.heap[ob]? = some (.cells #[v] 23 (0, 0))
  hb : wr.heap[bb]? = some (.cells #[vb] 73 (0, 0))
  own : OwnsX wr B v out (fun k => vb.ownBlock = some k)
  octs : OwnsB wr B vb b
  nilb : b = [] → vb.ownBlock = none
  kept : Kept (fun k => k = xb) w wr

theorem WBase.still {xb ob bb : Nat} {s : ByteArray} {a : Nat} {bash : Bool} {deep : Int} {B : Nat} {out : List Pt} {b : List UInt8} {v vb : Value} {w wr wq : World} (h : WBase xb ob bb s a bash deep B out b v vb w wr) (k : Kept (fun _ => False) wr wq) :
    WBase xb ob bb s a bash deep B out b v vb w wq where
  scan := h.scan.kept k (fun f => f)
  ho := (k.block ob (heap_lt h.ho) (fun f => f)).trans h.ho
  hb := (k.block bb (heap_lt h.hb) (fun f => f)).trans h.hb
  own := h.own.keep k (fun _ _ _ f => f.elim) (fun _ _ hx => hx)
  octs := h.octs.kept k (fun _ _ f => f)
  nilb := h.nilb
  kept := h.kept.trans k (fun _ _ f => f.elim)

/-- The octets under way are others. -/
theorem WBase.putB {xb ob bb : Nat} {s : ByteArray} {a a' : Nat} {bash : Bool} {deep : Int} {B : Nat} {out : List Pt} {b b' : List UInt8} {v vb vb' : Value} {w wr w3 : World} (h : WBase xb ob bb s a bash deep B out b v vb w wr)
    (k : Kept (fun i => i = xb ∨ vb.ownBlock = some i) wr w3) (x : ScanAt w3 xb s a' bash deep) (o : OwnsB w3 B vb' b') (hv : ∀ i, vb'.ownBlock = some i → vb.ownBlock = some i ∨ wr.heap.size ≤ i) (hnil : b' = [] → vb'.ownBlock = none)
    (h1 : xb < w.heap.size) (h2 : w.heap.size ≤ ob) (h3 : w.heap.size ≤ bb) (h4 : ob < B) (h5 : bb < B) (h6 : ob ≠ bb) : WBase xb ob bb s a' bash deep B out b' v vb' w (w3.setCell ⟨bb, 0, none⟩ vb') := by
  have hvb : ∀ i, vb.ownBlock = some i → B ≤ i := fun i hi => (h.octs.lt i hi).1
  have hvb' : ∀ i, vb'.ownBlock = some i → B ≤ i := fun i hi => (o.lt i hi).1
  have ho3 : w3.heap[ob]? = some (.cells #[v] 23 (0, 0)) := (k.block _ (heap_lt h.ho) (by rintro (e | e); omega; have := hvb _ e; omega)).trans h.ho
  have hb3 : w3.heap[bb]? = some (.cells #[vb] 73 (0, 0)) := (k.block _ (heap_lt h.hb) (by rintro (e | e); omega; have := hvb _ e; omega)).trans h.hb
  have kb : Kept (fun i => i = bb) w3 (w3.setCell ⟨bb, 0, none⟩ vb') := kept_at (Kept.refl _ _) 0 _ (fun _ => rfl)
  refine ⟨x.other _ _ (by show xb ≠ bb; omega), heap_setCell_keep ho3 _ _ h6, one_setCell hb3, ?_, o.kept kb (fun i hi e => by have := hvb' i hi; omega), hnil, ?_⟩
  · have o1 : OwnsX w3 B v out (fun i => vb'.ownBlock = some i) := h.own.keep k (fun i _ hb hs => hs.resolve_left (by omega)) (fun i hi hx => (hv i hx).resolve_right (by omega))
    exact o1.keep kb (fun i _ hb e => by omega) (fun _ _ hx => hx)
  · refine (h.kept.trans k (fun i hi hs => ?_)).trans kb (fun i hi e => by omega)
    rcases hs with e | e
    · exact e
    · have := hvb i e; omega

/-- The place is another. -/
theorem WBase.setAt {xb ob bb : Nat} {s : ByteArray} {a : Nat} {bash : Bool} {deep : Int} {B : Nat} {out : List Pt} {b : List UInt8} {v vb : Value} {w wr : World} (h : WBase xb ob bb s a bash deep B out b v vb w wr) (a' : Nat)
    (h1 : xb < w.heap.size) (h2 : w.heap.size ≤ ob) (h3 : w.heap.size ≤ bb) (h4 : w.heap.size ≤ B) : WBase xb ob bb s a' bash deep B out b v vb w (wr.setCell ⟨xb, 1, none⟩ (.int .i64 a')) := by
  have kb : Kept (fun i => i = xb) wr (wr.setCell ⟨xb, 1, none⟩ (.int .i64 a')) := kept_at (Kept.refl _ _) 1 _ (fun _ => rfl)
  exact ⟨h.scan.set1 a', heap_setCell_keep h.ho _ _ (by show ob ≠ xb; omega), heap_setCell_keep h.hb _ _ (by show bb ≠ xb; omega), h.own.keep kb (fun i _ hb e => by omega) (fun _ _ hx => hx),
    h.octs.kept kb (fun i hi e => by have := (h.octs.lt i hi).1; omega), h.nilb, h.kept.next kb⟩

/-- Behind a call that has gone on in the text. -/
theorem WBase.call {xb ob bb : Nat} {s : ByteArray} {a a' : Nat} {bash : Bool} {deep : Int} {B : Nat} {out : List Pt} {b : List UInt8} {v vb : Value} {w wr w3 : World} (h : WBase xb ob bb s a bash deep B out b v vb w wr)
    (k : Kept (fun i => i = xb) wr w3) (x : ScanAt w3 xb s a' bash deep) (h1 : xb < w.heap.size) (h2 : w.heap.size ≤ ob) (h3 : w.heap.size ≤ bb) (h4 : w.heap.size ≤ B) : WBase xb ob bb s a' bash deep B out b v vb w w3 :=
  ⟨x, (k.block _ (heap_lt h.ho) (by omega)).trans h.ho, (k.block _ (heap_lt h.hb) (by omega)).trans h.hb, h.own.keep k (fun i _ hb e => by omega) (fun _ _ hx => hx),
    h.octs.kept k (fun i hi e => by have := (h.octs.lt i hi).1; omega), h.nilb, h.kept.next k⟩

def WRel (xb : Nat) (s : ByteArray) (bash : Bool) (deep : Int) (dol : Nat → R Pt) (ends : ByteArray) (r : R (List Pt)) (w : World) (g : Nat) (wr : World) : Prop :=
  ∃ a out b v vb, withinS s dol ends g a out b = r ∧ a ≤ s.size ∧ out.length ≤ 2 * a ∧ b.length ≤ a ∧ WBase xb w.heap.size (w.heap.size + 1) s a bash deep (w.heap.size + 2) out b v vb w wr

/-- What a function that reads parts answers. -/
def PartsPost (xb : Nat) (s : ByteArray) (bash : Bool) (deep : Int) (w : World) (r : R (List Pt)) (e : Ending) (w' : World) : Prop :=
  match r with
  | .ok l a' => ∃ v', e = .returned v' ∧ OwnsP w' w.heap.size v' l ∧ ScanAt w' xb s a' bash deep ∧ Kept (fun k => k = xb) w w'
  | .bad a' er => Faults a' er e ∧ Kept (fun k => k = xb) w w'
  | .out => True

/-- dollar, of one quotedness, answers dol. -/
def DolOK (xb : Nat) (s : ByteArray) (bash : Bool) (deep : Int) (q : Bool) (dol : Nat → R Pt) : Prop :=
  (∀ (a : Nat) (w : World), a < s.size → (oct s a).toNat = 36 → dol a ≠ .out → ScanAt w xb s a bash deep → Calls Tryz.prog 37 #[.pointer (some ⟨xb, 0, none⟩), .bool q] w (PartPost xb s bash deep w (dol a))) ∧
  (∀ a p a', dol a = .ok p a' → a < a' ∧ a' ≤ s.size ∧ p.text.size + a ≤ a' ∧ (p.kind = 1 → 0 < p.text.size))

/-- The last statement of a sequence, as one behind which something stands. -/
theorem wp_last {P : Program} {c : Code} {Q : Exit → Act → World → Prop} {a : Act} {w : World} (h : ∀ K : Act → World → Prop, (∀ a w, Q .normal a w → K a w) → c.wp P (Exit.then K Q) a w) : c.wp P Q a w :=
  Code.wp_mono (fun e a w h => by cases e <;> exact h) (h (Q .normal) (fun _ _ h => h))

theorem ib_any (t : ByteArray) (c : UInt8) (w : World) : Calls Tryz.prog 29 #[.string t, .int .u8 c.toNat] w fun e w' => e = .returned (.int .i64 (ixI t c)) ∧ w' = w := by
  have := Tryz.strings_IndexByte t c.toNat w
  simpa [ixI] using this

theorem slash_bounds {s : ByteArray} {a : Nat} (h : a < s.size) : (slashS s a).2 ≤ s.size ∧ a + (slashS s a).1.length ≤ (slashS s a).2 ∧ a < (slashS s a).2 := by
  have key : (oct s (a + 1)).toNat ≠ 0 → a + 2 ≤ s.size := by
    intro hn
    rcases Nat.lt_or_ge (a + 1) s.size with h' | h'
    · omega
    · rw [oct_out h'] at hn
      exact absurd rfl hn
  unfold slashS
  simp only
  split
  · rename_i h10
    have := key (by omega)
    simp
    omega
  · split
    · rename_i h2
      have := key h2.1
      simp
      omega
    · simp
      omega

set_option maxRecDepth 100000 in
set_option maxHeartbeats 8000000 in
theorem within_any (xb : Nat) (s : ByteArray) (a : Nat) (bash : Bool) (deep : Int) (dol : Nat → R Pt) (ends : ByteArray) (K : Nat) (w : World) (hs : s.size ≤ 100000) (ha : a ≤ s.size) (hx : ScanAt w xb s a bash deep)
    (hd : DolOK xb s bash deep true dol) (hr : withinS s dol ends K a [] [] ≠ .out) :
    Calls Tryz.prog 30 #[.pointer (some ⟨xb, 0, none⟩), .string ends] w (PartsPost xb s bash deep w (withinS s dol ends K a [] [])) := by
  obtain ⟨r, hre⟩ : ∃ r, withinS s dol ends K a [] [] = r := ⟨_, rfl⟩
  rw [hre] at hr ⊢
  have hmf : ∀ (fn : Fn) (first cap : Array Value) (wx : World), (Instr.makeFunc fn first cap).run Tryz.prog wx = .ok (.func fn first cap) wx := fun _ _ _ _ => rfl
  have HX := Lib.hid hx
  have HD := Lib.hid hd
  have HRE := Lib.hid hre
  have HR := Lib.hid hr
  have hxl := hx.lt
  clear hx hd hre hr
  go_enter Tryz.func30, Tryz.ntmps30
  go_wp2
  go_loopg [8, 9] K (fun g _ _ wr => WRel xb s bash deep dol ends r w g wr)
  case atStart =>
    refine ⟨a, [], [], .slice none 0 0, .slice none 0 0, HRE.out, ha, Nat.zero_le _, Nat.zero_le _, (HX.out.alloc _).alloc _, heap_alloc_keep (heap_alloc_new _ _) _, ?_, OwnsX.of (Owns.nil _ _ _ _) (fun k h => by simp [Value.ownBlock] at h), OwnsB.nil _ _, fun _ => rfl, ((Kept.refl _ _).alloc _).alloc _⟩
    have := heap_alloc_new (w.alloc (.cells #[.slice none 0 0] 23)) (.cells #[.slice none 0 0] 73)
    simpa using this
  case round =>
    obtain ⟨a, out, b, v, vb, hw, ha, hol, hbl, hbase⟩ := hrel
    cases gk with
    | zero => exact (HR.out hw.symm).elim
    | succ gk =>
    rw [withinS] at hw
    have c0 := hbase.scan.c0
    have c1 := hbase.scan.c1
    have HBS := Lib.hid hbase
    clear hbase
    by_cases hge : s.size ≤ a
    · rw [if_pos hge] at hw
      have HW := Lib.hid hw
      clear hw
      go_wp2_with fail
      refine (more_no xb s a bash deep wr hge HBS.out.scan).mono ?_
      rintro e w1 ⟨he, m, rfl⟩
      unfold Faults at he
      subst he
      refine ⟨rfl, ?_⟩
      rw [← HW.out]
      exact ⟨rfl, HBS.out.kept.drewN m⟩
    · rw [if_neg hge] at hw
      have hlt : a < s.size := by omega
      have hix := ixAt (s := s) (i := (a : Int)) (k := a) rfl hlt
      have hlt2 : (a : Int) < s.size := by omega
      obtain ⟨c, hc⟩ : ∃ c, c = oct s a := ⟨_, rfl⟩
      rw [← hc] at hw hix
      have HC := Lib.hid hc
      clear hge hc
      go_wp2_with fail
      refine (more_yes xb s a bash deep wr hlt HBS.out.scan).mono ?_
      rintro e w1 ⟨rfl, m, rfl⟩
      go_wp2
      go_quiet (fail)
      go_upto_region 9 with fail
      generalize hwq : World.drewN _ _ = wq
      have hbq : WBase xb w.heap.size (w.heap.size + 1) s a bash deep (w.heap.size + 2) out b v vb w wq := HBS.out.still (by rw [← hwq]; exact ((Kept.refl _ _).drewN _).drewN _)
      clear HBS c0 c1 hwq
      have HBQ := Lib.hid hbq
      have q0 := hbq.scan.c0
      have q1 := hbq.scan.c1
      have g1 := hbq.scan.f 1
      have o0 := cell_of_one hbq.ho
      have o1 := cell_of_one hbq.hb
      have p0 := free_of_one hbq.ho
      have p1 := free_of_one hbq.hb
      have hxl2 := hbq.scan.lt
      have hobl := heap_lt hbq.ho
      have hbbl := heap_lt hbq.hb
      clear hbq
      by_cases hin : 0 ≤ ixI ends c
      · rw [if_pos hin] at hw
        have HW := Lib.hid hw
        have HIN := Lib.hid hin
        clear hw hin
        go_wp2_with fail
        refine (ib_any ends c wq).mono ?_
        rintro e w1 ⟨rfl, rfl⟩
        have hin := HIN.out
        go_wp2_with fail
        refine (flush_any (w.heap.size + 2) w.heap.size (w.heap.size + 1) v vb out b w1 (by omega) (by omega) HBQ.out.ho HBQ.out.hb HBQ.out.own.own HBQ.out.octs (by omega) (by omega) (by omega) (by omega) HBQ.out.nilb).mono ?_
        rintro e w2 ⟨rfl, v', f1, f2, ⟨vb', f3, f4, f5⟩, f6, f7⟩
        have z0 := cell_of_one f1
        have F2 := Lib.hid f2
        have F6 := Lib.hid f6
        clear f1 f2 f3 f4 f5 f6 f7
        go_wp2
        go_ret
        rw [← HW.out]
        refine ⟨v', rfl, F2.out.mono (by omega), ?_, ?_⟩
        · exact HBQ.out.scan.kept F6.out (by rintro (h | h | h); omega; omega; have := (HBQ.out.own.own.block xb h).1; omega)
        · refine HBQ.out.kept.trans F6.out (fun i hi h => ?_)
          rcases h with h | h | h
          · omega
          · omega
          · have := (HBQ.out.own.own.block i h).1; omega
      · rw [if_neg hin] at hw
        have hin2 : ixI ends c < 0 := by omega
        have HIN := Lib.hid hin2
        clear hin hin2
        have HW := Lib.hid hw
        clear hw
        go_wp2_with fail
        refine (ib_any ends c wq).mono ?_
        rintro e w1 ⟨rfl, rfl⟩
        have hin := HIN.out
        have hw := HW.out
        clear HW
        by_cases h92 : c.toNat = 92
        · rw [if_pos h92] at hw
          have b92 : ((c.toNat : Int) == 92) = true := by simp [h92]
          have HW := Lib.hid hw
          clear hw h92
          go_wp2_with fail
          refine (more_yes xb s a bash deep _ hlt HBQ.out.scan).mono ?_
          rintro e w2 ⟨rfl, m2, rfl⟩
          go_wp2_with fail
          have hb2 := HBQ.out.still ((Kept.refl _ _).drewN m2)
          refine (slash_any (w.heap.size + 2) xb s a bash deep vb b _ hs hlt (by simp; omega) (by omega) hb2.scan hb2.octs (by omega)).mono ?_
          rintro e w3 ⟨vb', rfl, f1, f2, f3, f4, f5⟩
          obtain ⟨sb, sn, scap, rfl⟩ := f1.shape
          have k3 : Kept (fun k => k = xb ∨ vb.ownBlock = some k) w1 w3 := ((Kept.refl _ _).drewN m2).next f3
          have hbo : ¬ (w.heap.size + 1 = xb ∨ vb.ownBlock = some (w.heap.size + 1)) := by
            rintro (h | h)
            · omega
            · have := (HBQ.out.octs.lt _ h).1; omega
          have hoo : ¬ (w.heap.size = xb ∨ vb.ownBlock = some w.heap.size) := by
            rintro (h | h)
            · omega
            · have := (HBQ.out.octs.lt _ h).1; omega
          have hb3 : w3.heap[w.heap.size + 1]? = some (.cells #[vb] 73 (0, 0)) := (k3.block _ hbbl hbo).trans HBQ.out.hb
          have ho3 : w3.heap[w.heap.size]? = some (.cells #[v] 23 (0, 0)) := (k3.block _ hobl hoo).trans HBQ.out.ho
          have z1 := cell_of_one hb3
          have z2 := free_of_one hb3
          have hbn := heap_lt hb3
          have F1 := Lib.hid f1
          have F2 := Lib.hid f2
          have K3 := Lib.hid k3
          have F4 := Lib.hid f4
          have F5 := Lib.hid f5
          have HB3 := Lib.hid hb3
          have HO3 := Lib.hid ho3
          clear f1 f2 f3 f4 f5 k3 hbo hoo hb3 ho3 hb2
          go_wp2
          go_roundg gk
          case measure => omega
          case rel =>
            have h1 := HBQ.out.putB K3.out F2.out F1.out (fun i hi => (F4.out i hi).imp id (fun h => by simpa using h)) (fun h => by
              have e := F5.out h
              have hb0 : b = [] := (List.append_eq_nil_iff.1 h).1
              rw [e]
              exact HBQ.out.nilb hb0) hxl (Nat.le_refl _) (by omega) (by omega) (by omega) (by omega)
            have hsl : (slashS s a).2 ≤ s.size ∧ a + (slashS s a).1.length ≤ (slashS s a).2 ∧ a < (slashS s a).2 := slash_bounds hlt
            exact ⟨(slashS s a).2, out, b ++ (slashS s a).1, v, _, HW.out, hsl.1, by omega, by rw [List.length_append]; omega, h1⟩
        · rw [if_neg h92] at hw
          have b92 : ((c.toNat : Int) == 92) = false := by simp; omega
          by_cases h36 : c.toNat = 36
          · rw [if_pos h36] at hw
            have b36 : ((c.toNat : Int) == 36) = true := by simp [h36]
            have h36' : (oct s a).toNat = 36 := by rw [← HC.out]; exact h36
            have hcall := fun hne => HD.out.1 a w1 hlt h36' hne HBQ.out.scan
            have hfine := HD.out.2 a
            obtain ⟨ra, hra⟩ : ∃ ra, dol a = ra := ⟨_, rfl⟩
            rw [hra] at hw hcall hfine
            have HW := Lib.hid hw
            have HCA := Lib.hid hcall
            have HF := Lib.hid hfine
            clear hw h92 h36 h36' hra hcall hfine
            cases ra with
            | out => exact (HR.out HW.out.symm).elim
            | bad a' er =>
              go_wp2_with fail
              refine (HCA.out (by simp)).mono ?_
              rintro e w3 ⟨he, k3⟩
              unfold Faults at he
              subst he
              refine ⟨rfl, ?_⟩
              rw [← HW.out]
              exact ⟨rfl, HBQ.out.kept.next k3⟩
            | ok p a' =>
              obtain ⟨n1, n2, n3, n4⟩ := HF.out p a' rfl
              go_wp2_with fail
              refine (HCA.out (by simp)).mono ?_
              rintro e w3 ⟨v5, v6, v7, v8, rfl, r5, r6, r7, r8, x3, k3⟩
              obtain ⟨a5, k5, rfl⟩ := r5.slice
              obtain ⟨a6, k6, rfl⟩ := r6.slice
              obtain ⟨a7, k7, rfl⟩ := r7.slice
              obtain ⟨a8, k8, rfl⟩ := r8.slice
              have hb3 := HBQ.out.call k3 x3 hxl (Nat.le_refl _) (by omega) (by omega)
              have hsz := k3.size
              have R5 := Lib.hid r5
              have R6 := Lib.hid r6
              have R7 := Lib.hid r7
              have R8 := Lib.hid r8
              have HB3 := Lib.hid hb3
              clear r5 r6 r7 r8 x3 k3 hb3
              go_upto_region 17 with fail
              generalize hw4 : World.alloc _ _ = w4
              have hb4 : WBase xb w.heap.size (w.heap.size + 1) s a' bash deep (w.heap.size + 2) out b v vb w w4 := HB3.out.still (by rw [← hw4]; exact (Kept.refl _ _).alloc _)
              have hbx : w4.heap[w3.heap.size]? = some (.cells #[.int .i64 p.kind, .string p.text, .string p.name, .string p.op, .bool p.quoted, .slice a5 p.word.1 k5, .slice a6 p.more.1 k6, .slice a7 p.sums.1 k7, .slice a8 p.list.1 k8, .int .i64 p.place] 32 (0, 0)) := by rw [← hw4]; exact heap_alloc_new _ _
              have k4 : Kept (fun _ => False) w3 w4 := by rw [← hw4]; exact (Kept.refl _ _).alloc _
              clear hw4
              obtain ⟨x0, x1, x2, x3, x4, x5, x6, x7, x8, x9⟩ := ten_cells hbx
              have bx := heap_lt hbx
              have m0 := cell_of_one hb4.ho
              have m1 := cell_of_one hb4.hb
              have m2 := free_of_one hb4.ho
              have m3 := free_of_one hb4.hb
              have m4 := heap_lt hb4.ho
              have m5 := heap_lt hb4.hb
              have HB4 := Lib.hid hb4
              have HBX := Lib.hid hbx
              have K4 := Lib.hid k4
              clear hb4 hbx k4
              by_cases hk : p.kind = 1
              · have hw := HW.out
                simp only [if_pos hk] at hw
                clear HW
                have HW := Lib.hid hw
                have bk : (p.kind == 1) = true := by simp [hk]
                have hsz2 := K4.out.size
                have n4' := n4 hk
                clear hw hk n4
                obtain ⟨sb, scap, hvb⟩ := HB4.out.octs.len
                subst hvb
                go_wp2_with (at_builtin; go_must (refine wpList_append_text rfl (.tmp 68) (.tmp 70) rfl (w.heap.size + 2) _ b rfl HB4.out.octs p.text rfl ?_ ?_ ?_))
                · omega
                · omega
                intro v' w5 ho5 hg5 hv5
                obtain ⟨tb, tn, tcap, rfl⟩ := ho5.shape
                have k5' : Kept (fun i => (Value.slice sb b.length scap).ownBlock = some i) w4 w5 := Kept.mono (Kept.of_grown hg5) (fun _ _ h => h)
                have hvB : ∀ i, (Value.slice sb b.length scap).ownBlock = some i → w.heap.size + 2 ≤ i := fun i hi => (HB4.out.octs.lt i hi).1
                have hb5 : w5.heap[w.heap.size + 1]? = some (.cells #[.slice sb b.length scap] 73 (0, 0)) := (k5'.block _ m5 (fun h => by have := hvB _ h; omega)).trans HB4.out.hb
                have z1 := cell_of_one hb5
                have z2 := free_of_one hb5
                have X5 := Lib.hid (HB4.out.scan.kept k5' (fun h => by have := hvB _ h; omega))
                have K5 := Lib.hid k5'
                have O5 := Lib.hid ho5
                have V5 := Lib.hid hv5
                clear k5' hb5 ho5 hg5 hv5 hvB
                go_wp2
                go_roundg gk
                case measure => omega
                case rel =>
                  have h1 := HB4.out.putB (K5.out.mono (fun _ _ h => .inr h)) X5.out O5.out (fun i hi => (V5.out i hi).imp id (fun h => by omega)) (fun h => by
                    have e := (List.append_eq_nil_iff.1 h).2
                    have e2 : p.text.data.toList.length = p.text.size := by simp
                    rw [e, List.length_nil] at e2
                    omega) hxl (Nat.le_refl _) (by omega) (by omega) (by omega) (by omega)
                  exact ⟨a', out, b ++ p.text.data.toList, v, _, HW.out, n2, by omega, by simp; have : p.text.size = p.text.data.size := rfl; omega, h1⟩
              · have hw := HW.out
                simp only [if_neg hk] at hw
                clear HW
                have HW := Lib.hid hw
                have bk : (p.kind == 1) = false := by simpa using hk
                clear hw hk n4
                go_wp2_with fail
                refine (flush_any (w.heap.size + 2) w.heap.size (w.heap.size + 1) v vb out b w4 (by omega) (by omega) HB4.out.ho HB4.out.hb HB4.out.own.own HB4.out.octs (by omega) (by omega) (by omega) (by omega) HB4.out.nilb).mono ?_
                rintro e w5 ⟨rfl, v', f1, f2, ⟨vb', f3, f4, f5⟩, f6, f7⟩
                have hvl : ∀ i, v.ownBlock = some i → w.heap.size + 2 ≤ i ∧ i < w1.heap.size := fun i hi => HBQ.out.own.own.block i hi
                have hb5 : w5.heap[w3.heap.size]? = some (.cells #[.int .i64 p.kind, .string p.text, .string p.name, .string p.op, .bool p.quoted, .slice a5 p.word.1 k5, .slice a6 p.more.1 k6, .slice a7 p.sums.1 k7, .slice a8 p.list.1 k8, .int .i64 p.place] 32 (0, 0)) :=
                  (f6.block _ bx (by rintro (h | h | h); omega; omega; have := (hvl _ h).2; omega)).trans HBX.out
                have tr : ∀ {t : T} {u : Value}, Rep w3 (fun k => w1.heap.size ≤ k) t u → Rep w5 (fun k => w.heap.size + 2 ≤ k ∧ v'.ownBlock ≠ some k) t u := by
                  intro t u h
                  refine Rep.imp (fun k hk ha => ⟨⟨by omega, ?ra⟩, ?rb, ?rc⟩) t u h
                  case ra =>
                    intro e
                    rcases f7 k e with h | h
                    · have := (hvl _ h).2; omega
                    · have := K4.out.size; omega
                  case rb =>
                    have h4 := K4.out.block k hk (fun f => f)
                    have h5 := f6.block k (Nat.lt_of_lt_of_le hk K4.out.size) (by rintro (h | h | h); omega; omega; have := (hvl _ h).2; omega)
                    exact h5.trans h4
                  case rc => have := K4.out.size; have := f6.size; omega
                obtain ⟨fl, hfl⟩ : ∃ fl, flushS out b = fl := ⟨_, rfl⟩
                have hfll : fl.length ≤ out.length + 1 := by
                  rw [← hfl]; unfold flushS; split
                  · omega
                  · simp
                rw [hfl] at f2
                obtain ⟨ao, cao, hv'⟩ := f2.len
                subst hv'
                have hnb : (Value.slice ao fl.length cao).ownBlock ≠ some w.heap.size := fun e => by have := (f2.block _ e).1; omega
                obtain ⟨i0, hi, hz0, hz1, hz2⟩ := info_parts info_part
                obtain ⟨xs, r1, r2⟩ := id f2
                have HXS := Lib.hid r1.1
                have R1 := Lib.hid r1
                have RL2 := Lib.hid r2
                have S5 := Lib.hid (tr R5.out)
                have S6 := Lib.hid (tr R6.out)
                have S7 := Lib.hid (tr R7.out)
                have S8 := Lib.hid (tr R8.out)
                obtain ⟨y0, y1, y2, y3, y4, y5, y6, y7, y8, y9⟩ := ten_cells hb5
                have c1 := cell_of_one f1
                have fr1 := free_of_one f1
                have hobw := heap_lt f1
                have hbxw := heap_lt hb5
                have F1 := Lib.hid f1
                have F2 := Lib.hid f2
                have F3 := Lib.hid f3
                have F4 := Lib.hid f4
                have F5 := Lib.hid f5
                have F6 := Lib.hid f6
                have HNB := Lib.hid hnb
                have HFL := Lib.hid hfl
                have HVL := Lib.hid hvl
                have b3 : (0 : Int) ≤ (fl.length : Int) := by omega
                have b4 : (fl.length : Int) < ((fl.length + 1 : Nat) : Int) := by omega
                have b5 : (fl.length : Int) < (fl.length : Int) + 1 := by omega
                have hB5 : w.heap.size + 2 ≤ w5.heap.size := by omega
                clear tr hb5 r1 r2 f1 f2 f3 f4 f5 f6 f7 hfl hnb x0 x1 x2 x3 x4 x5 x6 x7 x8 x9 m0 m1 m2 m3 hvl
                go_upto_region 20 with fail
                refine wp_last (fun KL hKL => ?_)
                go_cut [79] (fun _ wx => Mid (w.heap.size + 2) w.heap.size (.slice ao fl.length cao) (fl ++ [p]) w5 wx)
                case first =>
                 go_region_law (first | (refine step_append_lies _ rfl (.tmp 74) (.tmp 77) 23 rfl (w.heap.size + 2) 32 i0 _ 10 168 Tryz.underlying23 hi hz0 hz1 hz2 rfl (by decide) _ fl.length xs rfl (by exact R1.out.alloc _) ⟨w5.heap.size, 0, none⟩ 1 1 partZ.toList rfl rfl (by exact fun j u h => cell_new rfl j u h) (by simp [partZ, Value.oneCell']) (by decide) (by unfold maxLen; omega) (by omega) (by simp; omega) _ rfl ?_; intro g cap' wa ho' hg' hv' hlt'; have hBg := (ho'.lt g rfl).1; have hgo : ¬ w.heap.size = g := (by omega); have hgo2 : ¬ g = w.heap.size := (by omega); have HA := Lib.hid (mid_A (p := p) (w := w5) (((Kept.refl _ _).alloc _).drew) RL2.out ho' hg' (hv'.imp id (fun h => by exact h)) F1.out (by omega) HNB.out S5.out S6.out S7.out S8.out); have HBB := Lib.hid (mid_B (p := p) (w := w5) (((Kept.refl _ _).alloc _).drew) RL2.out ho' hg' (hv'.imp id (fun h => by exact h)) F1.out (by omega) HNB.out S5.out S6.out S7.out S8.out); obtain ⟨z, z0, z1, z2, z3, z4, z5, z6, z7, z8, z9⟩ := row_zero ho' HXS.out; have q1 : wa.cell? ⟨w.heap.size, 0, none⟩ = some (.slice ao fl.length cao) := (World.cell?_of_block (hg'.block w.heap.size (by simp; omega) (fun e => HNB.out e.symm))).trans (by exact (World.cell?_alloc_past _ _ _ hobw).trans c1); have q2 : wa.frozen? ⟨w.heap.size, 0, none⟩ = false := (World.frozen?_of_block (hg'.block w.heap.size (by simp; omega) (fun e => HNB.out e.symm))).trans (by exact (World.frozen?_alloc_past _ _ _ hobw).trans fr1)))
                 all_goals go_wp2_with fail
                 all_goals go_meet
                 all_goals first | (with_reducible exact HA.out) | (with_reducible exact HBB.out)
                case rest =>
                  obtain ⟨v'', g1', g2', g3', g4'⟩ := hcut
                  have G1 := Lib.hid g1'
                  have G2 := Lib.hid g2'
                  have G3 := Lib.hid g3'
                  clear g1' g2' g3' g4'
                  go_wp2
                  go_roundg gk
                  case measure => omega
                  case rel =>
                    have hvB : ∀ i, (Value.slice ao fl.length cao).ownBlock = some i → w.heap.size + 2 ≤ i := fun i hi => (F2.out.block i hi).1
                    have hS5 : ∀ i, i < w.heap.size + 2 → ¬ i = w.heap.size → ¬ (i = w.heap.size ∨ (Value.slice ao fl.length cao).ownBlock = some i) := by
                      rintro i hi hn (h | h)
                      · exact hn h
                      · have := hvB i h; omega
                    have hS4 : ∀ i, i < w.heap.size + 2 → ¬ i = w.heap.size → ¬ i = w.heap.size + 1 → ¬ (i = w.heap.size ∨ i = w.heap.size + 1 ∨ v.ownBlock = some i) := by
                      rintro i hi hn hn' (h | h | h)
                      · exact hn h
                      · exact hn' h
                      · have := (HVL.out i h).1; omega
                    have hfw : WBase xb w.heap.size (w.heap.size + 1) s a' bash deep (w.heap.size + 2) (fl ++ [p]) [] v'' vb' w wc :=
                      ⟨(HB4.out.scan.kept F6.out (hS4 _ (by omega) (by omega) (by omega))).kept G3.out (hS5 _ (by omega) (by omega)), G1.out,
                        (G3.out.block _ (heap_lt F3.out) (hS5 _ (by omega) (by omega))).trans F3.out, OwnsX.of G2.out (fun k hk => by rw [F5.out] at hk; cases hk),
                        F4.out.kept G3.out (fun k hk => by rw [F5.out] at hk; cases hk), fun _ => F5.out,
                        (HB4.out.kept.trans F6.out (fun i hi hs => (hS4 i (by omega) (by omega) (by omega) hs).elim)).trans G3.out (fun i hi hs => (hS5 i (by omega) (by omega) hs).elim)⟩
                    refine ⟨a', fl ++ [p], [], v'', vb', ?_, n2, by rw [List.length_append, List.length_singleton]; omega, Nat.zero_le _, hfw⟩
                    rw [← HFL.out]
                    exact HW.out
          · rw [if_neg h36] at hw
            have b36 : ((c.toNat : Int) == 36) = false := by simp; omega
            by_cases h96 : c.toNat = 96 ∨ c.toNat = 0
            · rw [if_pos h96] at hw
              have HW := Lib.hid hw
              clear hw h92 h36
              have b3 : ((c.toNat : Int) != 96) = false ∨ (((c.toNat : Int) != 96) = true ∧ ((c.toNat : Int) != 0) = false) := by
                rcases h96 with h | h
                · exact .inl (by simp [h])
                · exact .inr ⟨by simp [h], by simp [h]⟩
              clear h96
              rcases b3 with b3 | ⟨b3, b4⟩
              all_goals
                go_wp2_with fail
                refine (need_no _ _ _).mono ?_
                rintro e w' ⟨he, rfl⟩
                unfold Faults at he
                subst he
                refine ⟨rfl, ?_⟩
                rw [← HW.out]
                exact ⟨rfl, HBQ.out.kept⟩
            · rw [if_neg h96] at hw
              have b3 : ((c.toNat : Int) != 96) = true := by simp; omega
              have b4 : ((c.toNat : Int) != 0) = true := by simp; omega
              have HW := Lib.hid hw
              clear hw h92 h36 h96
              go_wp2_with fail
              refine (need_yes _ _ _).mono ?_
              rintro e w2 ⟨rfl, rfl⟩
              have hrow := HBQ.out.octs.row
              have HROW := Lib.hid hrow
              clear hrow
              obtain ⟨i0, hi, hz0, hz1, hz2⟩ := info_parts info_byte
              obtain ⟨sb, scap, hvb⟩ := HBQ.out.octs.len
              subst hvb
              have hwB : w.heap.size + 2 ≤ w2.heap.size := by omega
              go_wp2_with (at_builtin; go_must (refine wpList_append_lies _ rfl (.tmp 33) (.tmp 35) 73 rfl (w.heap.size + 2) 5 i0 _ 1 1 Tryz.underlying73 hi hz0 hz1 hz2 rfl (by decide) _ b.length _ rfl (HROW.out.alloc _) ⟨w2.heap.size, 0, none⟩ 1 1 [.int .u8 c.toNat] rfl rfl ?_ ?_ (by decide) ?_ ?_ ?_ _ rfl ?_))
              · exact fun j u h => cell_new rfl j u h
              · simp [Value.oneCell']
              · unfold maxLen; omega
              · omega
              · simp; omega
              intro g cap' w' ho' hg' hv' _
              have f1 : OwnsB w' (w.heap.size + 2) (.slice (some ⟨g, 0, none⟩) (b.length + 1) cap') (b ++ [c]) := by simpa [OwnsB] using ho'
              have k3 : Kept (fun i => (Value.slice sb b.length scap).ownBlock = some i) w2 w' := (((Kept.refl _ _).alloc _).grown hg' (fun i hi _ => hi))
              have hvB : ∀ i, (Value.slice sb b.length scap).ownBlock = some i → w.heap.size + 2 ≤ i := fun i hi => (HBQ.out.octs.lt i hi).1
              have x3 : ScanAt w' xb s a bash deep := HBQ.out.scan.kept k3 (fun h => by have := hvB _ h; omega)
              have hb3 : w'.heap[w.heap.size + 1]? = some (.cells #[.slice sb b.length scap] 73 (0, 0)) := (k3.block _ hbbl (fun h => by have := hvB _ h; omega)).trans HBQ.out.hb
              have z1 := cell_of_one hb3
              have z2 := free_of_one hb3
              have y0 := x3.c0
              have y1 := x3.c1
              have y2 := x3.f 1
              have n1 : ¬ xb = w.heap.size + 1 := by omega
              have n2 : ¬ w.heap.size + 1 = xb := by omega
              have F1 := Lib.hid f1
              have K3 := Lib.hid k3
              have X3 := Lib.hid x3
              have HV := Lib.hid hv'
              clear f1 k3 x3 hb3 ho' hg' hv' hvB
              go_wp2
              go_roundg gk
              case measure => omega
              case rel =>
                have h1 := HBQ.out.putB (K3.out.mono (fun _ _ h => .inr h)) X3.out F1.out (fun i hi => by
                  simp only [Value.ownBlock, Option.some.injEq] at hi
                  subst hi
                  exact HV.out.imp id (fun h => by omega)) (fun h => by simp at h) hxl (Nat.le_refl _) (by omega) (by omega) (by omega) (by omega)
                have h2 := h1.setAt (a + 1) hxl (Nat.le_refl _) (by omega) (by omega)
                exact ⟨a + 1, out, b ++ [c], v, _, HW.out, by omega, by omega, by simp; omega, h2⟩

end Go.Proofs.YtfkdeknblbmibaaGreatDoor
