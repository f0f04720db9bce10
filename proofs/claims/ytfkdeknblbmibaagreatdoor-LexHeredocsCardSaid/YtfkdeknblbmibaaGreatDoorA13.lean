/-
  lex: parts is walked: it answers 'partsS', for any dollar that is met. Condition: the text has at most 100000 octets and 'partsS' says something.
-/
import Derived.Test.YtfkdeknblbmibaaGreatDoorA12
namespace Go.Proofs.YtfkdeknblbmibaaGreatDoor
open Go.RowKit

/-- A slice of one part that a call has answered, just made. -/
theorem one_rep {w3 : World} {B M : Nat} {v : Value} (p : Pt) {v5 v6 v7 v8 : Value} (hv : ∀ k, v.ownBlock = some k → k < M) (hBM : B ≤ M) (hM3 : M ≤ w3.heap.size)
    (r5 : Rep w3 (fun k => M ≤ k) (slT p.word) v5) (r6 : Rep w3 (fun k => M ≤ k) (slT p.more) v6) (r7 : Rep w3 (fun k => M ≤ k) (slT p.sums) v7) (r8 : Rep w3 (fun k => M ≤ k) (slT p.list) v8) :
    Rep (w3.alloc (.cells #[.int .i64 p.kind, .string p.text, .string p.name, .string p.op, .bool p.quoted, v5, v6, v7, v8, .int .i64 p.place] 32)) (fun k => B ≤ k ∧ v.ownBlock ≠ some k) (.sl 1 (cellsOf [p])) (.slice (some ⟨w3.heap.size, 0, none⟩) 1 1) := by
  have hne : ∀ k, M ≤ k → B ≤ k ∧ v.ownBlock ≠ some k := fun k hk => ⟨by omega, fun e => by have := hv k e; omega⟩
  refine .inr ⟨w3.heap.size, 0, 1, rfl, Nat.le_refl _, by decide, hne _ hM3, by simp, ?_⟩
  have ka : Kept (fun _ => False) w3 (w3.alloc (.cells #[.int .i64 p.kind, .string p.text, .string p.name, .string p.op, .bool p.quoted, v5, v6, v7, v8, .int .i64 p.place] 32)) := (Kept.refl _ _).alloc _
  have tr : ∀ {t : T} {u : Value}, Rep w3 (fun k => M ≤ k) t u → Rep (w3.alloc (.cells #[.int .i64 p.kind, .string p.text, .string p.name, .string p.op, .bool p.quoted, v5, v6, v7, v8, .int .i64 p.place] 32)) (fun k => B ≤ k ∧ v.ownBlock ≠ some k) t u :=
    fun h => (h.kept ka (fun _ _ _ f => f)).mono (fun k _ hk => hne k hk)
  have hL := RepL.atoms (p := p) (tr r5) (tr r6) (tr r7) (tr r8)
  refine RepL.repAt 0 (by simpa [cellsOf] using hL) (fun j u h => ?_)
  have := cell_new (w := w3) (e := 32) (c := #[.int .i64 p.kind, .string p.text, .string p.name, .string p.op, .bool p.quoted, v5, v6, v7, v8, .int .i64 p.place]) rfl j u h
  have e : ∀ n j : Nat, (⟨n, 0, none⟩ : Addr).add j = ⟨n, 0 + j, none⟩ := by
    intro n j
    unfold Addr.add
    split <;> simp_all
  rw [e] at this
  exact this

structure PBase (xb : Nat) (s : ByteArray) (a : Nat) (bash : Bool) (deep : Int) (out : List Pt) (v : Value) (w wr : World) : Prop where
  scan : ScanAt wr xb s a bash deep
  own : OwnsP wr w.heap.size v out
  kept : Kept (fun k => k = xb) w wr

theorem PBase.still {xb : Nat} {s : ByteArray} {a : Nat} {bash : Bool} {deep : Int} {out : List Pt} {v : Value} {w wr wq : World} (h : PBase xb s a bash deep out v w wr) (k : Kept (fun _ => False) wr wq) : PBase xb s a bash deep out v w wq :=
  ⟨h.scan.kept k (fun f => f), h.own.kept k (fun _ _ _ f => f), h.kept.trans k (fun _ _ f => f.elim)⟩

theorem PBase.call {xb : Nat} {s : ByteArray} {a a' : Nat} {bash : Bool} {deep : Int} {out : List Pt} {v : Value} {w wr w3 : World} (h : PBase xb s a bash deep out v w wr) (k : Kept (fun i => i = xb) wr w3) (x : ScanAt w3 xb s a' bash deep) (hx : xb < w.heap.size) : PBase xb s a' bash deep out v w w3 :=
  ⟨x, h.own.kept k (fun g _ hb e => by omega), h.kept.next k⟩

/-- Behind a call that has changed the parts. -/
theorem PBase.join {xb : Nat} {s : ByteArray} {a : Nat} {bash : Bool} {deep : Int} {out out' : List Pt} {v v' : Value} {w wr w3 : World} (h : PBase xb s a bash deep out v w wr) (k : Kept (fun i => v.ownBlock = some i) wr w3) (o : OwnsP w3 w.heap.size v' out') (hx : xb < w.heap.size) : PBase xb s a bash deep out' v' w w3 := by
  have hb := h.own.block
  exact ⟨h.scan.kept k (fun e => by have := (hb _ e).1; omega), o, h.kept.trans k (fun i hi e => by have := (hb _ e).1; omega)⟩

theorem PBase.setAt {xb : Nat} {s : ByteArray} {a : Nat} {bash : Bool} {deep : Int} {out : List Pt} {v : Value} {w wr : World} (h : PBase xb s a bash deep out v w wr) (a' : Nat) (hx : xb < w.heap.size) : PBase xb s a' bash deep out v w (wr.setCell ⟨xb, 1, none⟩ (.int .i64 a')) :=
  h.call (kept_at (Kept.refl _ _) 1 _ (fun _ => rfl)) (h.scan.set1 a') hx

def PRel (xb : Nat) (s : ByteArray) (bash : Bool) (deep : Int) (dolT dolF : Nat → R Pt) (ends stops : ByteArray) (r : R (List Pt)) (w : World) (g : Nat) (v : Value) (wr : World) : Prop :=
  ∃ a out, partsS s bash dolT dolF ends stops g a out = r ∧ a ≤ s.size ∧ out.length ≤ 2 * a ∧ tsum out ≤ a ∧ PBase xb s a bash deep out v w wr

theorem tsum_joined_eq (l : List Pt) : ∀ out : List Pt, tsum (joinedS out l) = tsum out + tsum l := by
  induction l with
  | nil => intro out; simp [joinedS, tsum]
  | cons p l ih =>
    intro out
    have := ih (joinS out p)
    unfold joinedS at this ⊢
    rw [List.foldl_cons, this, (tsum_joinS out p).1]
    simp [tsum]
    omega
theorem length_joined_le (l : List Pt) (out : List Pt) : (joinedS out l).length ≤ out.length + l.length := by
  have := length_joined out l l.length
  rwa [List.take_length] at this

/-- Each call's way within the text. -/
theorem quoted_bounds {s : ByteArray} {a : Nat} (ha : a < s.size) (p : Pt) (a' : Nat) (h : quotedS s a = .ok p a') : a < a' ∧ a' ≤ s.size ∧ p.text.size + a ≤ a' := by
  unfold quotedS at h
  have hnl := indexByte_lt (s.data.toList.drop (a + 1)) 39
  have e3 : (s.data.toList.drop (a + 1)).length = s.size - (a + 1) := by simp
  rw [e3] at hnl
  simp only at h
  split at h
  · cases h
  · split at h
    · cases h
    · cases h
      rw [show ({ kind := 1, text := s.extract (a + 1) (a + 1 + (Lib.indexByte (s.data.toList.drop (a + 1)) 39).toNat), quoted := true } : Pt).text = s.extract (a + 1) (a + 1 + (Lib.indexByte (s.data.toList.drop (a + 1)) 39).toNat) from rfl, ByteArray.size_extract]
      omega

theorem raw_bounds {s : ByteArray} {kind : Int} {q : Bool} {a : Nat} (p : Pt) (a' : Nat) (h : rawS s kind q a = .ok p a') : a < a' ∧ a' ≤ s.size ∧ p.text.size + a ≤ a' := by
  unfold rawS at h
  have hb := (closed_bounds s (s.size + 2 - a)).1 a 0
  cases hc : closedS s (s.size + 2 - a) a 0 with
  | out => rw [hc] at h; cases h
  | bad a1 e1 => rw [hc] at h; cases h
  | ok u a1 =>
    rw [hc] at h
    cases h
    have := hb _ _ hc
    rw [show ({ kind := kind, text := s.extract a a1, quoted := q, place := a } : Pt).text = s.extract a a1 from rfl, ByteArray.size_extract]
    omega

theorem doubled_bounds {s : ByteArray} {dol : Nat → R Pt} {a : Nat} (hd : ∀ a p a', dol a = .ok p a' → a < a' ∧ a' ≤ s.size ∧ p.text.size + a ≤ a' ∧ (p.kind = 1 → 0 < p.text.size)) (l : List Pt) (a' : Nat) (h : doubledS s dol a = .ok l a') :
    a + 1 < a' ∧ a' ≤ s.size ∧ tsum l + a ≤ a' ∧ l.length + 2 * a ≤ 2 * a' := by
  unfold doubledS at h
  have hb := within_bounds (ends := ⟨#[34]⟩) hd (s.size + 1 - a) (a + 1) [] []
  cases hc : withinS s dol ⟨#[34]⟩ (s.size + 1 - a) (a + 1) [] [] with
  | out => rw [hc] at h; cases h
  | bad a1 e1 => rw [hc] at h; cases h
  | ok l1 a1 =>
    rw [hc] at h
    have := hb _ _ hc
    have h0 : tsum ([] : List Pt) = 0 := rfl
    simp only [List.length_nil] at this
    simp only [R.ok.injEq] at h
    obtain ⟨h1, h2⟩ := h
    split at h1
    · subst h1
      have h3 : tsum [({ kind := 1, text := ⟨#[]⟩, quoted := true } : Pt)] = 0 := rfl
      rw [h3]
      simp only [List.length_singleton]
      omega
    · subst h1
      omega

theorem escape_bounds {s : ByteArray} {a : Nat} {out : List Pt} (l : List Pt) (a' : Nat) (h : escapeS s a out = .ok l a') : a' = a + 2 ∧ a' ≤ s.size ∧ tsum l ≤ tsum out + 1 ∧ l.length ≤ out.length + 1 := by
  unfold escapeS at h
  split at h
  · cases h
  split at h
  · cases h
  split at h
  · cases h; omega
  · cases h
    have := tsum_joinS out { kind := 1, text := ⟨#[oct s (a + 1)]⟩, quoted := true }
    have e : ByteArray.size (⟨#[oct s (a + 1)]⟩ : ByteArray) = 1 := rfl
    simp only [e] at this
    omega

theorem plain_bounds (out : List Pt) (c : UInt8) : tsum (plainS out c) ≤ tsum out + 1 ∧ (plainS out c).length ≤ out.length + 1 := by
  rcases List.eq_nil_or_concat out with rfl | ⟨o, q, rfl⟩
  · exact ⟨Nat.le_refl _, Nat.le_refl _⟩
  · unfold plainS
    rw [List.concat_eq_append, List.getLast?_concat]
    simp only
    have e : ByteArray.size (⟨#[c]⟩ : ByteArray) = 1 := rfl
    split
    · rw [List.dropLast_concat, tsum_append, tsum_append]
      simp [tsum, ByteArray.size_append, e]
      omega
    · rw [tsum_append]
      simp [tsum, e]

set_option maxRecDepth 100000 in
set_option maxHeartbeats 8000000 in
theorem parts_any (xb : Nat) (s : ByteArray) (a : Nat) (bash : Bool) (deep : Int) (dolT dolF : Nat → R Pt) (ends stops : ByteArray) (K : Nat) (w : World) (hs : s.size ≤ 100000) (ha : a ≤ s.size) (hx : ScanAt w xb s a bash deep)
    (hdT : DolOK xb s bash deep true dolT) (hdF : DolOK xb s bash deep false dolF) (hr : partsS s bash dolT dolF ends stops K a [] ≠ .out) :
    Calls Tryz.prog 22 #[.pointer (some ⟨xb, 0, none⟩), .string ends, .string stops] w (PartsPost xb s bash deep w (partsS s bash dolT dolF ends stops K a [])) := by
  obtain ⟨r, hre⟩ : ∃ r, partsS s bash dolT dolF ends stops K a [] = r := ⟨_, rfl⟩
  rw [hre] at hr ⊢
  have HX := Lib.hid hx
  have HT := Lib.hid hdT
  have HF := Lib.hid hdF
  have HRE := Lib.hid hre
  have HR := Lib.hid hr
  have hxl := hx.lt
  obtain ⟨bE, hbE⟩ : ∃ b, ends.data.toList.isEmpty = b := ⟨_, rfl⟩
  obtain ⟨bS, hbS⟩ : ∃ b, stops.data.toList.isEmpty = b := ⟨_, rfl⟩
  have tE : ends.toList.isEmpty = bE := by rw [ByteArray.toList_eq]; exact hbE
  have tS : stops.toList.isEmpty = bS := by rw [ByteArray.toList_eq]; exact hbS
  have HBE := Lib.hid hbE
  have HBS := Lib.hid hbS
  clear hx hdT hdF hre hr hbE hbS
  go_enter Tryz.func22, Tryz.ntmps22
  go_wp2
  go_loopg [7] K (fun g v wr => PRel xb s bash deep dolT dolF ends stops r w g v wr)
  case atStart =>
    exact ⟨a, [], HRE.out, ha, Nat.zero_le _, Nat.zero_le _, HX.out, Owns.nil _ _ _ _, Kept.refl _ _⟩
  case round =>
    obtain ⟨a, out, hw, ha, hol, hts, hbase⟩ := hrel
    cases gk with
    | zero => exact (HR.out hw.symm).elim
    | succ gk =>
    rw [partsS, HBE.out, HBS.out] at hw
    obtain ⟨ao, cao, rfl⟩ := hbase.own.len
    have c0 := hbase.scan.c0
    have c1 := hbase.scan.c1
    have HBA := Lib.hid hbase
    clear hbase
    by_cases hge : s.size ≤ a
    · rw [if_pos hge] at hw
      have hlt : ¬ (a < s.size) := by omega
      have hd : decide (a < s.size) = false := decide_eq_false hlt
      cases bE with
      | true =>
        rw [if_pos rfl] at hw
        have HW := Lib.hid hw
        clear hw
        go_wp2
        go_quiet (fail)
        go_upto_region 24 with fail
        generalize hwq : World.drewN _ _ = wq
        have hq := HBA.out.still (wq := wq) (by rw [← hwq]; exact (Kept.refl _ _).drewN _)
        clear hwq c0 c1
        have HQ := Lib.hid hq
        have c0 := hq.scan.c0
        clear hq
        go_wp2_with fail
        refine (need_yes _ _ _).mono ?_
        rintro e w1 ⟨rfl, rfl⟩
        go_wp2
        go_ret
        rw [← HW.out]
        exact ⟨_, rfl, HQ.out.own, HQ.out.scan, HQ.out.kept⟩
      | false =>
        rw [if_neg (by decide)] at hw
        have HW := Lib.hid hw
        clear hw
        go_wp2
        go_quiet (fail)
        go_wp2_with fail
        refine (need_no _ _ _).mono ?_
        rintro e w1 ⟨he, rfl⟩
        unfold Faults at he
        subst he
        refine ⟨rfl, ?_⟩
        rw [← HW.out]
        exact ⟨rfl, HBA.out.kept.drewN _⟩
    · rw [if_neg hge] at hw
      have hlt : a < s.size := by omega
      have hd : decide (a < s.size) = true := decide_eq_true hlt
      have hix := ixAt (s := s) (i := (a : Int)) (k := a) rfl hlt
      obtain ⟨c, hc⟩ : ∃ c, c = oct s a := ⟨_, rfl⟩
      rw [← hc] at hw hix
      have HC := Lib.hid hc
      have HW := Lib.hid hw
      clear hge hc hw
      go_wp2
      go_quiet (fail)
      go_wp2
      go_quiet (fail)
      go_upto_region 7 with fail
      generalize hwq : World.drewN _ _ = wq
      have hbq : PBase xb s a bash deep out (.slice ao out.length cao) w wq := HBA.out.still (by rw [← hwq]; exact ((Kept.refl _ _).drewN _).drewN _)
      clear HBA c0 c1 hwq
      have HBQ := Lib.hid hbq
      have q0 := hbq.scan.c0
      have q1 := hbq.scan.c1
      have q2 := hbq.scan.c2
      have g1 := hbq.scan.f 1
      have hxl2 := hbq.scan.lt
      have hhas := has_any xb s ⟨#[60, 40]⟩ a bash deep wq (by omega) hbq.scan
      have HHAS := Lib.hid hhas
      clear hbq hhas hix hd
      obtain ⟨bR, hbR⟩ : ∃ b, b = (decide (0 ≤ ixI ends c) && !bE) := ⟨_, rfl⟩
      have HBR := Lib.hid hbR
      clear hbR
      go_cut [50] (fun v wx => v = .bool bR ∧ wx = wq)
      case first =>
        by_cases hin : 0 ≤ ixI ends c
        · have hb : bR = !bE := by rw [HBR.out]; simp [hin]
          subst hb
          go_wp2_with fail
          refine (ib_any ends c wq).mono ?_
          rintro e w1 ⟨rfl, rfl⟩
          go_wp2_with fail
          go_meet
          exact ⟨rfl, rfl⟩
        · have hb : bR = false := by rw [HBR.out]; simp [hin]
          subst hb
          have hin2 : ixI ends c < 0 := by omega
          clear hin
          go_wp2_with fail
          refine (ib_any ends c wq).mono ?_
          rintro e w1 ⟨rfl, rfl⟩
          go_wp2_with fail
          go_meet
          exact ⟨rfl, rfl⟩
      case rest =>
      obtain ⟨rfl, rfl⟩ := hcut
      cases bR with
      | true =>
        have hw := HW.out
        have hR := HBR.out
        have key : 0 ≤ ixI ends c ∧ bE = false := by
          rcases Bool.and_eq_true_iff.1 hR.symm with ⟨h1, h2⟩
          exact ⟨of_decide_eq_true h1, by simpa using h2⟩
        rw [if_pos key] at hw
        clear key
        have HW2 := Lib.hid hw
        clear hw hR HW
        go_wp2
        go_ret
        rw [← HW2.out]
        exact ⟨_, rfl, HBQ.out.own, HBQ.out.scan, HBQ.out.kept⟩
      | false =>
      have hw := HW.out
      have hR := HBR.out
      have key : ¬ (0 ≤ ixI ends c ∧ bE = false) := by
        rintro ⟨h1, h2⟩
        rw [h2, decide_eq_true h1] at hR
        exact absurd hR (by decide)
      rw [if_neg key] at hw
      clear key
      clear HW hR
      have HW := Lib.hid hw
      clear hw
      go_upto_region 9 with fail
      obtain ⟨bH, hbH⟩ : ∃ b, b = Lib.hasPrefix (s.data.toList.drop a) [60, 40] := ⟨_, rfl⟩
      have hhas := HHAS.out
      rw [show (⟨#[60, 40]⟩ : ByteArray).data.toList = [60, 40] from rfl, ← hbH] at hhas
      have hpre := fun h => pre_size (s := s) (t := ⟨#[60, 40]⟩) (a := a) (by omega) h
      rw [show (⟨#[60, 40]⟩ : ByteArray).data.toList = [60, 40] from rfl, ← hbH, show (⟨#[60, 40]⟩ : ByteArray).size = 2 from rfl] at hpre
      have hw := HW.out
      rw [← hbH] at hw
      clear HHAS HW
      have HHAS := Lib.hid hhas
      have HPRE := Lib.hid hpre
      have HW := Lib.hid hw
      clear hw hhas hpre hbH
      go_cut [60] (fun v wx => v = .bool (bash && bH && bE) ∧ ∃ m, wx = wc.drewN m)
      case first =>
        cases bash with
        | false =>
          go_wp2_with fail
          go_meet
          exact ⟨rfl, 0, rfl⟩
        | true =>
          go_wp2_with fail
          refine HHAS.out.mono ?_
          rintro e w1 ⟨rfl, m, rfl⟩
          cases bH
          all_goals
            go_wp2_with fail
            go_meet
            exact ⟨rfl, m, rfl⟩
      case rest =>
      obtain ⟨rfl, mh, hwh⟩ := hcut
      have hbq := HBQ.out.still (wq := wc) (by rw [hwh]; exact (Kept.refl _ _).drewN _)
      clear HBQ hwh HHAS q0 q1 q2 g1 hxl2
      have HBQ := Lib.hid hbq
      have q0 := hbq.scan.c0
      have q1 := hbq.scan.c1
      have g1 := hbq.scan.f 1
      have hxl2 := hbq.scan.lt
      clear hbq
      obtain ⟨bP, hbP⟩ : ∃ b, b = (bash && bH && bE) := ⟨_, rfl⟩
      have hw := HW.out
      have hP2 : (bash = true ∧ bH = true ∧ bE = true) ↔ bP = true := by
        rw [hbP]; cases bash <;> cases bH <;> cases bE <;> decide
      simp only [hP2] at hw
      rw [← hbP]
      have HBP := Lib.hid hP2
      clear hP2 hbP HW
      cases bP with
      | true =>
        rw [if_pos rfl] at hw
        have hh := HPRE.out (HBP.out.2 rfl).2.1
        have hcall := fun wx (hx' : ScanAt wx xb s (a + 2) bash deep) => raw_any xb s 5 false (a + 2) bash deep wx (by omega) hh hx'
        have hbd := raw_bounds (s := s) (kind := 5) (q := false) (a := a + 2)
        obtain ⟨ra, hra⟩ : ∃ ra, rawS s 5 false (a + 2) = ra := ⟨_, rfl⟩
        rw [hra] at hw hcall hbd
        have HW := Lib.hid hw
        have HCA := Lib.hid hcall
        have HBD := Lib.hid hbd
        have hw1 : IntKind.i64.wrap ((a : Int) + 2) = ((a + 2 : Nat) : Int) := by rw [IntWalk.i64_in _ (by omega)]; omega
        have HB2 := Lib.hid (HBQ.out.setAt (a + 2) hxl)
        have hsz2 : (wc.setCell ⟨xb, 1, none⟩ (.int .i64 ((a + 2 : Nat) : Int))).heap.size = wc.heap.size := by simp
        clear hw hcall hbd hra HBP HPRE
        cases ra with
        | out => exact (HR.out HW.out.symm).elim
        | bad a' er =>
          go_wp2_with fail
          refine (HCA.out _ HB2.out.scan).mono ?_
          rintro e w3 ⟨he, k3⟩
          unfold Faults at he
          subst he
          refine ⟨rfl, ?_⟩
          rw [← HW.out]
          exact ⟨rfl, HB2.out.kept.next k3⟩
        | ok p a' =>
          have hb2 := HBD.out p a' rfl
          go_wp2_with fail
          refine (HCA.out _ HB2.out.scan).mono ?_
          rintro e w3 ⟨v5, v6, v7, v8, rfl, r5, r6, r7, r8, x3, k3⟩
          obtain ⟨a5, k5, rfl⟩ := r5.slice
          obtain ⟨a6, k6, rfl⟩ := r6.slice
          obtain ⟨a7, k7, rfl⟩ := r7.slice
          obtain ⟨a8, k8, rfl⟩ := r8.slice
          have hb3 := HB2.out.call k3 x3 hxl
          have hsz := k3.size
          have hblk := HBQ.out.own.block
          have hBs := hb3.kept.size
          obtain ⟨xs, h1, h2⟩ := hb3.own
          have up : ∀ {t : T} {u : Value}, Rep w3 (fun k => (wc.setCell ⟨xb, 1, none⟩ (.int .i64 ((a + 2 : Nat) : Int))).heap.size ≤ k) t u → Rep w3 (fun k => w.heap.size ≤ k ∧ (Value.slice ao out.length cao).ownBlock ≠ some k) t u :=
            fun h => h.mono (fun k _ hk => by
              have hk2 : wc.heap.size ≤ k := by rw [hsz2] at hk; exact hk
              have := HBQ.out.kept.size
              exact ⟨by omega, fun e => by have := (hblk k e).2; omega⟩)
          have E5 := Lib.hid (up r5)
          have E6 := Lib.hid (up r6)
          have E7 := Lib.hid (up r7)
          have E8 := Lib.hid (up r8)
          obtain ⟨i0, hi, hz0, hz1, hz2⟩ := info_parts info_part
          have H1 := Lib.hid h1
          have H2 := Lib.hid h2
          have HB3 := Lib.hid hb3
          clear h1 h2 hb3 x3 k3 r5 r6 r7 r8 up hblk
          go_wp2_with (at_builtin; go_must (refine wpList_append_lies _ rfl (.tmp 80) (.tmp 83) 23 rfl w.heap.size 32 i0 _ 10 168 Tryz.underlying23 hi hz0 hz1 hz2 rfl (by decide) _ out.length xs rfl (H1.out.alloc _) ⟨w3.heap.size, 0, none⟩ 1 1 [.int .i64 p.kind, .string p.text, .string p.name, .string p.op, .bool p.quoted, .slice a5 p.word.1 k5, .slice a6 p.more.1 k6, .slice a7 p.sums.1 k7, .slice a8 p.list.1 k8, .int .i64 p.place] rfl rfl ?_ ?_ (by decide) ?_ ?_ ?_ _ rfl ?_))
          · exact fun j u h => cell_new rfl j u h
          · simp [Value.oneCell']
          · unfold maxLen; omega
          · omega
          · simp; omega
          intro g' cap' w' ho' hg' hv' _
          have K2 : Kept (fun _ => False) w3 (w3.alloc (.cells #[.int .i64 p.kind, .string p.text, .string p.name, .string p.op, .bool p.quoted, .slice a5 p.word.1 k5, .slice a6 p.more.1 k6, .slice a7 p.sums.1 k7, .slice a8 p.list.1 k8, .int .i64 p.place] 32)) := (Kept.refl _ _).alloc _
          have HO' := Lib.hid (Owns.grow (v := .slice ao out.length cao) (H2.out.kept K2 (fun _ _ _ f => f)) (RepL.atoms (p := p) (E5.out.kept K2 (fun _ _ _ f => f)) (E6.out.kept K2 (fun _ _ _ f => f)) (E7.out.kept K2 (fun _ _ _ f => f)) (E8.out.kept K2 (fun _ _ _ f => f))) ho' hg' (hv'.imp id (fun h => by simpa using h)))
          have HK := Lib.hid ((K2.mono (fun _ _ f => f.elim)).grown hg' (fun k hk _ => hk))
          clear ho' hg' hv'
          go_wp2
          go_roundg gk
          case measure => omega
          case rel =>
            have o5 : OwnsP w' w.heap.size (.slice (some ⟨g', 0, none⟩) (out.length + 1) cap') (out ++ [p]) := by
              unfold OwnsP
              rw [cellsOf_append, List.length_append]
              simpa [cellsOf] using HO'.out
            refine ⟨a', out ++ [p], HW.out, hb2.2.1, by rw [List.length_append, List.length_singleton]; omega, by rw [tsum_append]; simp [tsum]; unfold tsum at hts; omega, HB3.out.join HK.out o5 hxl⟩
      | false =>
      rw [if_neg (by decide)] at hw
      have HW := Lib.hid hw
      clear hw HBP HPRE
      go_upto_region 12 with fail
      go_cut [85] (fun v wx => v = .bool (!bS && decide (0 ≤ ixI stops c)) ∧ wx = wc)
      case first =>
        cases bS with
        | true =>
          go_wp2_with fail
          go_meet
          exact ⟨rfl, rfl⟩
        | false =>
          go_wp2_with fail
          refine (ib_any stops c _).mono ?_
          rintro e w1 ⟨rfl, rfl⟩
          go_wp2_with fail
          go_meet
          exact ⟨by simp, rfl⟩
      case rest =>
      obtain ⟨rfl, rfl⟩ := hcut
      obtain ⟨bQ, hbQ⟩ : ∃ b, b = (!bS && decide (0 ≤ ixI stops c)) := ⟨_, rfl⟩
      have hQ2 : (bS = false ∧ 0 ≤ ixI stops c) ↔ bQ = true := by
        rw [hbQ]; cases bS <;> simp
      have hw := HW.out
      simp only [hQ2] at hw
      rw [← hbQ]
      clear HW hbQ hQ2
      cases bQ with
      | true =>
        rw [if_pos rfl] at hw
        have HW := Lib.hid hw
        clear hw
        go_wp2
        go_ret
        rw [← HW.out]
        exact ⟨_, rfl, HBQ.out.own, HBQ.out.scan, HBQ.out.kept⟩
      | false =>
      rw [if_neg (by decide)] at hw
      by_cases h39 : c.toNat = 39
      · rw [if_pos h39] at hw
        have b39 : ((c.toNat : Int) == 39) = true := by simp [h39]
        clear h39
        obtain ⟨ra, hra⟩ : ∃ ra, quotedS s a = ra := ⟨_, rfl⟩
        have hcall := quoted_any xb s a bash deep wc (by omega) hlt HBQ.out.scan
        have hbd := quoted_bounds (s := s) (a := a) hlt
        rw [hra] at hw hcall hbd
        have HW := Lib.hid hw
        have HCA := Lib.hid hcall
        have HBD := Lib.hid hbd
        clear hw hcall hbd hra
        cases ra with
        | out => exact (HR.out HW.out.symm).elim
        | bad a' er =>
          go_wp2_with fail
          refine (HCA.out).mono ?_
          rintro e w3 ⟨he, k3⟩
          unfold Faults at he
          subst he
          refine ⟨rfl, ?_⟩
          rw [← HW.out]
          exact ⟨rfl, HBQ.out.kept.next k3⟩
        | ok p a' =>
          have hb2 := HBD.out p a' rfl
          go_wp2_with fail
          refine (HCA.out).mono ?_
          rintro e w3 ⟨v5, v6, v7, v8, rfl, r5, r6, r7, r8, x3, k3⟩
          obtain ⟨a5, k5, rfl⟩ := r5.slice
          obtain ⟨a6, k6, rfl⟩ := r6.slice
          obtain ⟨a7, k7, rfl⟩ := r7.slice
          obtain ⟨a8, k8, rfl⟩ := r8.slice
          have HB3 := Lib.hid (HBQ.out.call k3 x3 hxl)
          have ONE := Lib.hid (one_rep p (v := .slice ao out.length cao) (fun k hk => (HBQ.out.own.block k hk).2) HBQ.out.kept.size k3.size r5 r6 r7 r8)
          have hsz := HB3.out.kept.size
          clear r5 r6 r7 r8 x3 k3
          go_wp2_with fail
          refine (joined_any w.heap.size _ _ out [p] _ (by simp; omega) (by rw [List.length_singleton]; omega) (by rw [show tsum [p] = p.text.size from rfl]; omega) (HB3.out.own.kept ((Kept.refl (fun _ => False) _).alloc _) (fun _ _ _ f => f)) ONE.out).mono ?_
          rintro e w5 ⟨v', rfl, o5, kk5⟩
          have hb5 := (HB3.out.still (wq := w3.alloc (.cells #[.int .i64 p.kind, .string p.text, .string p.name, .string p.op, .bool p.quoted, .slice a5 p.word.1 k5, .slice a6 p.more.1 k6, .slice a7 p.sums.1 k7, .slice a8 p.list.1 k8, .int .i64 p.place] 32)) ((Kept.refl (fun _ => False) _).alloc _)).join kk5 o5 hxl
          have HB5 := Lib.hid hb5
          obtain ⟨vo, vc, rfl⟩ := o5.len
          clear hb5 o5 kk5
          go_wp2
          go_roundg gk
          case measure => omega
          case rel =>
            have hj := tsum_joinS out p
            exact ⟨a', joinS out p, HW.out, hb2.2.1, by omega, by omega, HB5.out⟩
      rw [if_neg h39] at hw
      have b39 : ((c.toNat : Int) == 39) = false := by simp; omega
      by_cases h34 : c.toNat = 34
      · rw [if_pos h34] at hw
        have b34 : ((c.toNat : Int) == 34) = true := by simp [h34]
        clear h39 h34
        obtain ⟨ra, hra⟩ : ∃ ra, doubledS s dolT a = ra := ⟨_, rfl⟩
        have hcall := doubled_any xb s a bash deep dolT wc hs hlt HBQ.out.scan HT.out
        have hbd := doubled_bounds (s := s) (dol := dolT) (a := a) HT.out.2
        rw [hra] at hw hcall hbd
        have HW := Lib.hid hw
        have HCA := Lib.hid hcall
        have HBD := Lib.hid hbd
        clear hw hcall hbd hra
        cases ra with
        | out => exact (HR.out HW.out.symm).elim
        | bad a' er =>
          go_wp2_with fail
          refine (HCA.out (by simp)).mono ?_
          rintro e w3 ⟨he, k3⟩
          unfold Faults at he
          subst he
          refine ⟨rfl, ?_⟩
          rw [← HW.out]
          exact ⟨rfl, HBQ.out.kept.next k3⟩
        | ok l a' =>
          have hb2 := HBD.out l a' rfl
          go_wp2_with fail
          refine (HCA.out (by simp)).mono ?_
          rintro e w3 ⟨v', rfl, o3, x3, k3⟩
          obtain ⟨lo, lc, rfl⟩ := o3.len
          have hblk := HBQ.out.own.block
          have hsz0 := HBQ.out.kept.size
          have ONE := Lib.hid (Rep.mono (A' := fun g => w.heap.size ≤ g ∧ (Value.slice ao out.length cao).ownBlock ≠ some g) (fun g _ (hg : wc.heap.size ≤ g) => ⟨by omega, fun e => by have := (hblk g e).2; omega⟩) (Owns.rep o3 (by omega)))
          have HB3 := Lib.hid (HBQ.out.call k3 x3 hxl)
          have hsz := HB3.out.kept.size
          clear o3 x3 k3 hblk
          go_wp2_with fail
          refine (joined_any w.heap.size _ _ out l _ hsz (by omega) (by omega) HB3.out.own ONE.out).mono ?_
          rintro e w5 ⟨v', rfl, o5, k5⟩
          have hb5 := HB3.out.join k5 o5 hxl
          have HB5 := Lib.hid hb5
          obtain ⟨vo, vc, rfl⟩ := o5.len
          clear hb5 o5 k5
          go_wp2
          go_roundg gk
          case measure => omega
          case rel =>
            have hj1 := tsum_joined_eq l out
            have hj2 := length_joined_le l out
            exact ⟨a', joinedS out l, HW.out, hb2.2.1, by omega, by omega, HB5.out⟩
      rw [if_neg h34] at hw
      have b34 : ((c.toNat : Int) == 34) = false := by simp; omega
      by_cases h92 : c.toNat = 92
      · rw [if_pos h92] at hw
        have b92 : ((c.toNat : Int) == 92) = true := by simp [h92]
        clear h39 h34 h92
        obtain ⟨ra, hra⟩ : ∃ ra, escapeS s a out = ra := ⟨_, rfl⟩
        have hcall := escape_any w.heap.size xb s a bash deep (.slice ao out.length cao) out wc hs hlt HBQ.out.scan HBQ.out.kept.size hxl HBQ.out.own (by omega) (by omega)
        have hbd := escape_bounds (s := s) (a := a) (out := out)
        rw [hra] at hw hcall hbd
        have HW := Lib.hid hw
        have HCA := Lib.hid hcall
        have HBD := Lib.hid hbd
        clear hw hcall hbd hra
        cases ra with
        | out => exact (HR.out HW.out.symm).elim
        | bad a' er =>
          go_wp2_with fail
          refine (HCA.out).mono ?_
          rintro e w3 ⟨he, k3⟩
          unfold Faults at he
          subst he
          refine ⟨rfl, ?_⟩
          rw [← HW.out]
          refine ⟨rfl, HBQ.out.kept.trans k3 (fun i hi h => h.resolve_right (fun e => ?_))⟩
          have := (HBQ.out.own.block _ e).1
          omega
        | ok l a' =>
          have hb2 := HBD.out l a' rfl
          go_wp2_with fail
          refine (HCA.out).mono ?_
          rintro e w3 ⟨v', rfl, o3, x3, k3⟩
          obtain ⟨lo, lc, rfl⟩ := o3.len
          have hb5 : PBase xb s a' bash deep l (.slice lo l.length lc) w w3 := ⟨x3, o3, HBQ.out.kept.trans k3 (fun i hi h => h.resolve_right (fun e => by have := (HBQ.out.own.block _ e).1; omega))⟩
          have HB5 := Lib.hid hb5
          clear hb5 o3 x3 k3
          go_wp2
          go_roundg gk
          case measure => omega
          case rel => exact ⟨a', l, HW.out, hb2.2.1, by omega, by omega, HB5.out⟩
      rw [if_neg h92] at hw
      have b92 : ((c.toNat : Int) == 92) = false := by simp; omega
      by_cases h36 : c.toNat = 36
      · rw [if_pos h36] at hw
        have b36 : ((c.toNat : Int) == 36) = true := by simp [h36]
        have h36' : (oct s a).toNat = 36 := by rw [← HC.out]; exact h36
        clear h39 h34 h92 h36
        obtain ⟨ra, hra⟩ : ∃ ra, dolF a = ra := ⟨_, rfl⟩
        have hcall := fun hne => HF.out.1 a wc hlt h36' hne HBQ.out.scan
        have hbd := HF.out.2 a
        rw [hra] at hw hcall hbd
        have HW := Lib.hid hw
        have HCA := Lib.hid hcall
        have HBD := Lib.hid hbd
        clear hw hcall hbd hra
        cases ra with
        | out => exact (HR.out HW.out.symm).elim
        | bad a' er =>
          go_wp2_with fail
          refine (HCA.out (by simp)).mono ?_
          rintro e w3 ⟨he, k3⟩
          unfold Faults at he
          subst he
          refine ⟨rfl, ?_⟩
          rw [← HW.out]
          exact ⟨rfl, HBQ.out.kept.next k3⟩
        | ok p a' =>
          have hb2 := HBD.out p a' rfl
          go_wp2_with fail
          refine (HCA.out (by simp)).mono ?_
          rintro e w3 ⟨v5, v6, v7, v8, rfl, r5, r6, r7, r8, x3, k3⟩
          obtain ⟨a5, k5, rfl⟩ := r5.slice
          obtain ⟨a6, k6, rfl⟩ := r6.slice
          obtain ⟨a7, k7, rfl⟩ := r7.slice
          obtain ⟨a8, k8, rfl⟩ := r8.slice
          have HB3 := Lib.hid (HBQ.out.call k3 x3 hxl)
          have hsz := HB3.out.kept.size
          have hsz3 := k3.size
          have R5 := Lib.hid r5
          have R6 := Lib.hid r6
          have R7 := Lib.hid r7
          have R8 := Lib.hid r8
          clear r5 r6 r7 r8 x3 k3
          go_upto_region 22 with fail
          generalize hw4 : World.alloc _ _ = w4
          have hb4 := HB3.out.still (wq := w4) (by rw [← hw4]; exact (Kept.refl _ _).alloc _)
          have hbx : w4.heap[w3.heap.size]? = some (.cells #[.int .i64 p.kind, .string p.text, .string p.name, .string p.op, .bool p.quoted, .slice a5 p.word.1 k5, .slice a6 p.more.1 k6, .slice a7 p.sums.1 k7, .slice a8 p.list.1 k8, .int .i64 p.place] 32 (0, 0)) := by rw [← hw4]; exact heap_alloc_new _ _
          have k4 : Kept (fun _ => False) w3 w4 := by rw [← hw4]; exact (Kept.refl _ _).alloc _
          clear hw4
          obtain ⟨x0, x1, x2, x3, x4, x5, x6, x7, x8, x9⟩ := ten_cells hbx
          have bx := heap_lt hbx
          have fx := free_at hbx
          have HB4 := Lib.hid hb4
          have HBX := Lib.hid hbx
          have K4 := Lib.hid k4
          clear hb4 hbx k4
          go_upto_region 23 with fail
          all_goals
            rename_i hq
            have e0 : (p.quoted || p.kind == 1) = true ∨ (p.quoted || p.kind == 1) = (p.kind == 1) := by
              cases p.quoted <;> simp
            generalize hw5 : World.setCell _ _ _ = w5
            have hbx5 : w5.heap[w3.heap.size]? = some (.cells #[.int .i64 p.kind, .string p.text, .string p.name, .string p.op, .bool (p.quoted || p.kind == 1), .slice a5 p.word.1 k5, .slice a6 p.more.1 k6, .slice a7 p.sums.1 k7, .slice a8 p.list.1 k8, .int .i64 p.place] 32 (0, 0)) := by
              rw [← hw5]
              first
                | (rw [show (p.quoted || p.kind == 1) = true by rw [hq]; rfl]; exact heap_setCell_at HBX.out 4 _)
                | (rw [show (p.quoted || p.kind == 1) = (p.kind == 1) by rw [Bool.eq_false_iff.2 hq]; rfl]; exact heap_setCell_at HBX.out 4 _)
            have k35 : Kept (fun _ => False) w3 w5 := by
              rw [← hw5]
              exact kept_at K4.out 4 _ (fun h => absurd h (Nat.lt_irrefl _))
            clear hw5 x0 x1 x2 x3 x4 x5 x6 x7 x8 x9 bx fx HB4 HBX K4 hq e0
            obtain ⟨x0, x1, x2, x3, x4, x5, x6, x7, x8, x9⟩ := ten_cells hbx5
            have bx := heap_lt hbx5
            have fx := free_at hbx5
            have hsz5 := k35.size
            have HB5 := Lib.hid (HB3.out.still k35)
            have ONE := Lib.hid (one_rep { p with quoted := p.quoted || p.kind == 1 } (w3 := w5) (v := .slice ao out.length cao) (fun k hk => (HBQ.out.own.block k hk).2) HBQ.out.kept.size (Nat.le_trans hsz3 hsz5) (R5.out.kept k35 (fun _ _ _ f => f)) (R6.out.kept k35 (fun _ _ _ f => f)) (R7.out.kept k35 (fun _ _ _ f => f)) (R8.out.kept k35 (fun _ _ _ f => f)))
            clear hbx5 k35
            go_wp2_with fail
            refine (joined_any w.heap.size _ _ out [{ p with quoted := p.quoted || p.kind == 1 }] _ (by simp; omega) (by rw [List.length_singleton]; omega) (by rw [show tsum [{ p with quoted := p.quoted || p.kind == 1 }] = p.text.size from rfl]; omega) (HB5.out.own.kept ((Kept.refl (fun _ => False) _).alloc _) (fun _ _ _ f => f)) ONE.out).mono ?_
            rintro e w6 ⟨v', rfl, o5, kk5⟩
            have hb6 := (HB5.out.still (wq := w5.alloc (.cells #[.int .i64 p.kind, .string p.text, .string p.name, .string p.op, .bool (p.quoted || p.kind == 1), .slice a5 p.word.1 k5, .slice a6 p.more.1 k6, .slice a7 p.sums.1 k7, .slice a8 p.list.1 k8, .int .i64 p.place] 32)) ((Kept.refl (fun _ => False) _).alloc _)).join kk5 o5 hxl
            have HB6 := Lib.hid hb6
            obtain ⟨vo, vc, rfl⟩ := o5.len
            clear hb6 o5 kk5
            go_wp2
            go_roundg gk
            case measure => omega
            case rel =>
              have hj := tsum_joinS out { p with quoted := p.quoted || p.kind == 1 }
              have hj2 : tsum (joinS out { p with quoted := p.quoted || p.kind == 1 }) = tsum out + p.text.size := hj.1
              exact ⟨a', joinS out { p with quoted := p.quoted || p.kind == 1 }, HW.out, hb2.2.1, by omega, by omega, HB6.out⟩
      rw [if_neg h36] at hw
      have b36 : ((c.toNat : Int) == 36) = false := by simp; omega
      by_cases h96 : c.toNat = 96 ∨ c.toNat = 0
      · rw [if_pos h96] at hw
        have hbad : ((c.toNat : Int) != 96) = false ∨ (((c.toNat : Int) != 96) = true ∧ ((c.toNat : Int) != 0) = false) := by
          rcases h96 with h | h <;> simp [h]
        have HW := Lib.hid hw
        clear hw h39 h34 h92 h36 h96
        rcases hbad with b96 | ⟨b96, b0⟩
        all_goals
          go_wp2_with fail
          refine (need_no _ _ _).mono ?_
          rintro e w3 ⟨he, rfl⟩
          unfold Faults at he
          subst he
          refine ⟨rfl, ?_⟩
          rw [← HW.out]
          exact ⟨rfl, HBQ.out.kept⟩
      · rw [if_neg h96] at hw
        have b96 : ((c.toNat : Int) != 96) = true := by simp; omega
        have b0 : ((c.toNat : Int) != 0) = true := by simp; omega
        have HW := Lib.hid hw
        have hw1 : IntKind.i64.wrap ((a : Int) + 1) = ((a + 1 : Nat) : Int) := by rw [IntWalk.i64_in _ (by omega)]; omega
        clear hw h39 h34 h92 h36 h96
        go_wp2_with fail
        refine (need_yes _ _ _).mono ?_
        rintro e w3 ⟨rfl, rfl⟩
        go_wp2_with fail
        refine (plain_any w.heap.size _ out c _ HBQ.out.kept.size (by omega) (fun p hp => by have := tsum_mem hp; omega) HBQ.out.own).mono ?_
        rintro e w5 ⟨v', rfl, o5, k5⟩
        have hb5 := HBQ.out.join k5 o5 hxl
        have HB5 := Lib.hid hb5
        obtain ⟨vo, vc, rfl⟩ := o5.len
        have d1 := hb5.scan.c1
        have f1 := hb5.scan.f 1
        clear hb5 o5 k5
        go_wp2
        go_roundg gk
        case measure => omega
        case rel =>
          have hp := plain_bounds out c
          exact ⟨a + 1, plainS out c, HW.out, by omega, by omega, by omega, HB5.out.setAt (a + 1) hxl⟩

end Go.Proofs.YtfkdeknblbmibaaGreatDoor
