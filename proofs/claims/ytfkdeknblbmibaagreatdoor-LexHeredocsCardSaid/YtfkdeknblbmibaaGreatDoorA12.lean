/-
  lex: closed and double (which call each other) and raw are walked, as 'closedS', 'doubleS' and 'rawS' say. Condition: the text has at most 2^60 octets.
-/
import Derived.Test.YtfkdeknblbmibaaGreatDoorA11
namespace Go.Proofs.YtfkdeknblbmibaaGreatDoor
open Go.RowKit

/-- What closed answers. -/
def ClosedPost (xb : Nat) (s : ByteArray) (bash : Bool) (deep : Int) (w : World) (r : R Unit) (e : Ending) (w' : World) : Prop :=
  match r with
  | .ok _ a' => e = .returned (.int .i64 a') ∧ ScanAt w' xb s a' bash deep ∧ Kept (fun k => k = xb) w w'
  | .bad a' er => Faults a' er e ∧ Kept (fun k => k = xb) w w'
  | .out => True
/-- What double answers. -/
def DoublePost (xb : Nat) (s : ByteArray) (bash : Bool) (deep : Int) (w : World) (r : R Unit) (e : Ending) (w' : World) : Prop :=
  match r with
  | .ok _ a' => e = .returned (.tuple #[]) ∧ ScanAt w' xb s a' bash deep ∧ Kept (fun k => k = xb) w w'
  | .bad a' er => Faults a' er e ∧ Kept (fun k => k = xb) w w'
  | .out => True

def ClosedOK (xb : Nat) (s : ByteArray) (bash : Bool) (deep : Int) (k : Nat) : Prop :=
  ∀ (a : Nat) (w : World), a ≤ s.size + 2 → ScanAt w xb s a bash deep → closedS s k a 0 ≠ .out → Calls Tryz.prog 24 #[.pointer (some ⟨xb, 0, none⟩)] w (ClosedPost xb s bash deep w (closedS s k a 0))
def DoubleOK (xb : Nat) (s : ByteArray) (bash : Bool) (deep : Int) (k : Nat) : Prop :=
  ∀ (a : Nat) (w : World), a < s.size → ScanAt w xb s a bash deep → doubleS s k (a + 1) ≠ .out → Calls Tryz.prog 40 #[.pointer (some ⟨xb, 0, none⟩)] w (DoublePost xb s bash deep w (doubleS s k (a + 1)))

/-- Each ends within the text (or just behind it). -/
theorem closed_bounds (s : ByteArray) : ∀ k, (∀ a o a' u, closedS s k a o = .ok u a' → a ≤ a' ∧ a' < s.size) ∧ (∀ a a' u, doubleS s k a = .ok u a' → a ≤ a' ∧ a' < s.size) := by
  intro k
  induction k with
  | zero => exact ⟨fun _ _ _ _ h => by (unfold closedS at h; cases h), fun _ _ _ h => by (unfold doubleS at h; cases h)⟩
  | succ k ih =>
    constructor
    · intro a o a' u h
      rw [closedS] at h
      split at h
      · cases h
      split at h
      · have := ih.1 _ _ _ _ h; omega
      split at h
      · split at h
        · cases h; omega
        · have := ih.1 _ _ _ _ h; omega
      split at h
      · have := ih.1 _ _ _ _ h; omega
      split at h
      · simp only at h
        split at h
        · cases h
        · have := ih.1 _ _ _ _ h; omega
      split at h
      · cases hd : doubleS s k (a + 1) with
        | out => rw [hd] at h; cases h
        | bad a1 e1 => rw [hd] at h; cases h
        | ok u1 a1 =>
          rw [hd] at h
          have h1 := ih.2 _ _ _ hd
          have := ih.1 _ _ _ _ h
          omega
      · have := ih.1 _ _ _ _ h; omega
    · intro a a' u h
      rw [doubleS] at h
      split at h
      · cases h
      split at h
      · cases h; omega
      split at h
      · have := ih.2 _ _ _ h; omega
      split at h
      · cases hd : closedS s k (a + 2) 0 with
        | out => rw [hd] at h; cases h
        | bad a1 e1 => rw [hd] at h; cases h
        | ok u1 a1 =>
          rw [hd] at h
          have h1 := ih.1 _ _ _ _ hd
          have := ih.2 _ _ _ h
          omega
      · have := ih.2 _ _ _ h; omega

def CRel (xb : Nat) (s : ByteArray) (bash : Bool) (deep : Int) (K : Nat) (r : R Unit) (w : World) (g : Nat) (v : Value) (wr : World) : Prop :=
  ∃ a o, v = .int .i64 (o : Nat) ∧ g ≤ K ∧ closedS s g a o = r ∧ a ≤ s.size + 2 ∧ o ≤ a ∧ ScanAt wr xb s a bash deep ∧ Kept (fun k => k = xb) w wr

set_option maxRecDepth 100000 in
set_option maxHeartbeats 4000000 in
theorem closed_step (xb : Nat) (s : ByteArray) (bash : Bool) (deep : Int) (K : Nat) (hs : s.size ≤ 1152921504606846976) (ihd : ∀ k, k < K → DoubleOK xb s bash deep k) : ClosedOK xb s bash deep K := by
  intro a w ha hx hr
  obtain ⟨r, hre⟩ : ∃ r, closedS s K a 0 = r := ⟨_, rfl⟩
  rw [hre] at hr ⊢
  have HX := Lib.hid hx
  have HRE := Lib.hid hre
  have HR := Lib.hid hr
  have HD := Lib.hid ihd
  have hxl := hx.lt
  clear hx hre hr ihd
  go_enter Tryz.func24, Tryz.ntmps24
  go_wp2
  go_loopg [3] K (fun g v wr => CRel xb s bash deep K r w g v wr)
  case atStart => exact ⟨a, 0, rfl, Nat.le_refl _, HRE.out, ha, Nat.zero_le _, HX.out, Kept.refl _ _⟩
  case round =>
    obtain ⟨a, o, rfl, hgK, hw, ha, hol, hx, hk⟩ := hrel
    cases gk with
    | zero => exact (HR.out (by rw [← hw, closedS])).elim
    | succ gk =>
    rw [closedS] at hw
    have c0 := hx.c0
    have c1 := hx.c1
    have HX := Lib.hid hx
    have HK := Lib.hid hk
    clear hx hk
    by_cases hge : s.size ≤ a
    · rw [if_pos hge] at hw
      have HW := Lib.hid hw
      clear hw
      go_wp2_with fail
      refine (more_no xb s a bash deep wr hge HX.out).mono ?_
      rintro e w1 ⟨he, m, rfl⟩
      unfold Faults at he
      subst he
      refine ⟨rfl, ?_⟩
      rw [← HW.out]
      exact ⟨rfl, HK.out.drewN m⟩
    · rw [if_neg hge] at hw
      have hlt : a < s.size := by omega
      have hix := ixAt (s := s) (i := (a : Int)) (k := a) rfl hlt
      have hlt2 : (a : Int) < s.size := by omega
      obtain ⟨c, hc⟩ : ∃ c, c = oct s a := ⟨_, rfl⟩
      rw [← hc] at hw hix
      clear hge hc
      have HW := Lib.hid hw
      clear hw
      go_wp2_with fail
      refine (more_yes xb s a bash deep wr hlt HX.out).mono ?_
      rintro e w1 ⟨rfl, m, rfl⟩
      go_wp2
      go_quiet (fail)
      go_upto_region 5 with fail
      generalize hwq : World.drewN _ _ = wq
      have kq : Kept (fun _ => False) wr wq := by rw [← hwq]; exact ((Kept.refl _ _).drewN _).drewN _
      have xq := HX.out.kept kq (fun f => f)
      have kkq := HK.out.trans kq (fun _ _ f => f.elim)
      clear hwq kq HX HK c0 c1
      have q0 := xq.c0
      have q1 := xq.c1
      have g1 := xq.f 1
      have HX := Lib.hid xq
      have HK := Lib.hid kkq
      clear xq kkq
      have hw1 : IntKind.i64.wrap ((a : Int) + 1) = (a : Int) + 1 := IntWalk.i64_in _ (by omega)
      have e1 : (a : Int) + 1 = ((a + 1 : Nat) : Int) := by omega
      have e2 : (a : Int) + 1 + 1 = ((a + 2 : Nat) : Int) := by omega
      have E1 := Lib.hid e1
      have E2 := Lib.hid e2
      clear e1 e2
      have hw := HW.out
      clear HW
      by_cases h40 : c.toNat = 40
      · rw [if_pos h40] at hw
        have b40 : ((c.toNat : Int) == 40) = true := by simp [h40]
        have HW := Lib.hid hw
        have hw2 : IntKind.i64.wrap ((o : Int) + 1) = ((o + 1 : Nat) : Int) := by rw [IntWalk.i64_in _ (by omega)]; omega
        clear hw h40
        go_wp2
        go_roundg gk
        case measure => omega
        case rel =>
          exact ⟨a + 1, o + 1, rfl, by omega, HW.out, by omega, by omega, by rw [E1.out]; exact HX.out.set1 (a + 1), kept_at HK.out 1 _ (fun _ => rfl)⟩
      · rw [if_neg h40] at hw
        have b40 : ((c.toNat : Int) == 40) = false := by simp; omega
        by_cases h41 : c.toNat = 41
        · rw [if_pos h41] at hw
          have b41 : ((c.toNat : Int) == 41) = true := by simp [h41]
          by_cases ho : o = 0
          · rw [if_pos ho] at hw
            subst ho
            have HW := Lib.hid hw
            clear hw h40 h41
            go_wp2
            go_ret
            rw [← HW.out]
            exact ⟨rfl, HX.out, HK.out⟩
          · rw [if_neg ho] at hw
            have HW := Lib.hid hw
            have bo : ((o : Int) == 0) = false := by simp; omega
            have hw2 : IntKind.i64.wrap ((o : Int) - 1) = ((o - 1 : Nat) : Int) := by rw [IntWalk.i64_in _ (by omega)]; omega
            clear hw h40 h41
            go_wp2
            go_roundg gk
            case measure => omega
            case rel =>
              exact ⟨a + 1, o - 1, rfl, by omega, HW.out, by omega, by omega, by rw [E1.out]; exact HX.out.set1 (a + 1), kept_at HK.out 1 _ (fun _ => rfl)⟩
        · rw [if_neg h41] at hw
          have b41 : ((c.toNat : Int) == 41) = false := by simp; omega
          by_cases h92 : c.toNat = 92
          · rw [if_pos h92] at hw
            have b92 : ((c.toNat : Int) == 92) = true := by simp [h92]
            have hw2 : IntKind.i64.wrap ((a : Int) + 1 + 1) = (a : Int) + 1 + 1 := IntWalk.i64_in _ (by omega)
            have HW := Lib.hid hw
            clear hw h40 h41 h92
            go_wp2
            go_roundg gk
            case measure => omega
            case rel =>
              exact ⟨a + 2, o, rfl, by omega, HW.out, by omega, by omega, by rw [E2.out]; exact (HX.out.set1 (a + 1)).set1 (a + 2), kept_at (kept_at HK.out 1 _ (fun _ => rfl)) 1 _ (fun _ => rfl)⟩
          · rw [if_neg h92] at hw
            have b92 : ((c.toNat : Int) == 92) = false := by simp; omega
            by_cases h39 : c.toNat = 39
            · rw [if_pos h39] at hw
              have b39 : ((c.toNat : Int) == 39) = true := by simp [h39]
              obtain ⟨n, hn⟩ : ∃ n, n = Lib.indexByte (s.data.toList.drop (a + 1)) 39 := ⟨_, rfl⟩
              have hnl := indexByte_lt (s.data.toList.drop (a + 1)) 39
              rw [← hn] at hnl
              simp only [← hn] at hw
              have e3 : (s.data.toList.drop (a + 1)).length = s.size - (a + 1) := by simp
              rw [e3] at hnl
              have hsl := slFrom (s := s) (i := (a : Int) + 1) (a := a + 1) (by omega) (by omega)
              have HIB : Hid (∀ wx : World, Calls Tryz.prog 29 #[.string (s.extract (a + 1) s.size), .int .u8 39] wx fun e w' => e = .returned (.int .i64 n) ∧ w' = wx) := by
                intro wx
                have := Tryz.strings_IndexByte (s.extract (a + 1) s.size) 39 wx
                rw [Lib.extract_to_end] at this
                rw [hn]
                exact this
              have HW := Lib.hid hw
              clear hw h40 h41 h92 h39 hn e3
              by_cases h0 : n < 0
              · have hw := HW.out
                rw [if_pos h0] at hw
                have HR2 := Lib.hid hw
                have hb : decide (0 ≤ n) = false := decide_eq_false (by omega)
                clear hw HW
                go_wp2
                go_quiet ((go_at_call 29; exact Calls.quiet_of_same (HIB.out _)))
                go_wp2_with fail
                refine (need_no _ _ _).mono ?_
                rintro e w' ⟨he, rfl⟩
                unfold Faults at he
                subst he
                refine ⟨rfl, ?_⟩
                rw [← HR2.out]
                exact ⟨rfl, HK.out.drewN _⟩
              · obtain ⟨N, rfl⟩ : ∃ N : Nat, n = N := ⟨n.toNat, by omega⟩
                have hw := HW.out
                rw [if_neg h0, Int.toNat_natCast] at hw
                clear HW
                have HW := Lib.hid hw
                have hb : decide (0 ≤ (N : Int)) = true := decide_eq_true (by omega)
                have hw2 : IntKind.i64.wrap ((N : Int) + 1) = (N : Int) + 1 := IntWalk.i64_in _ (by omega)
                have hw3 : IntKind.i64.wrap ((a : Int) + ((N : Int) + 1)) = (a : Int) + ((N : Int) + 1) := IntWalk.i64_in _ (by omega)
                have hw4 : IntKind.i64.wrap ((a : Int) + ((N : Int) + 1) + 1) = (a : Int) + ((N : Int) + 1) + 1 := IntWalk.i64_in _ (by omega)
                have e4 : (a : Int) + ((N : Int) + 1) + 1 = ((a + N + 2 : Nat) : Int) := by omega
                have e5 : (a : Int) + ((N : Int) + 1) = ((a + N + 1 : Nat) : Int) := by omega
                have E4 := Lib.hid e4
                have E5 := Lib.hid e5
                clear hw e4 e5
                go_wp2
                go_quiet ((go_at_call 29; exact Calls.quiet_of_same (HIB.out _)))
                go_wp2_with fail
                refine (need_is _ (by simp) _ _ _).mono ?_
                rintro e w' ⟨rfl, rfl⟩
                go_wp2
                go_roundg gk
                case measure => omega
                case rel =>
                  refine ⟨a + N + 2, o, rfl, by omega, HW.out, by omega, by omega, ?_, kept_at (kept_at (HK.out.drewN _) 1 _ (fun _ => rfl)) 1 _ (fun _ => rfl)⟩
                  rw [E4.out, E5.out]
                  exact ((HX.out.drewN _).set1 (a + N + 1)).set1 (a + N + 2)
            · rw [if_neg h39] at hw
              have b39 : ((c.toNat : Int) == 39) = false := by simp; omega
              by_cases h34 : c.toNat = 34
              · rw [if_pos h34] at hw
                have b34 : ((c.toNat : Int) == 34) = true := by simp [h34]
                have hcall := fun hne => HD.out gk (by omega) a wq hlt HX.out hne
                have hbd := (closed_bounds s gk).2 (a + 1)
                obtain ⟨ra, hra⟩ : ∃ ra, doubleS s gk (a + 1) = ra := ⟨_, rfl⟩
                rw [hra] at hw hcall hbd
                have HW := Lib.hid hw
                have HCA := Lib.hid hcall
                have HBD := Lib.hid hbd
                clear hw hcall hra hbd h40 h41 h92 h39 h34
                cases ra with
                | out => exact (HR.out HW.out.symm).elim
                | bad a' er =>
                  go_wp2_with fail
                  refine (HCA.out (by simp)).mono ?_
                  rintro e w3 ⟨he, k3⟩
                  unfold Faults at he
                  subst he
                  refine ⟨rfl, ?_⟩
                  rw [← HW.out]
                  exact ⟨rfl, HK.out.next k3⟩
                | ok u a' =>
                  have hb2 := HBD.out a' u rfl
                  go_wp2_with fail
                  refine (HCA.out (by simp)).mono ?_
                  rintro e w3 ⟨rfl, x3, k3⟩
                  have d1 := x3.c1
                  have d2 := x3.f 1
                  have X3 := Lib.hid x3
                  have K3 := Lib.hid (HK.out.next k3)
                  have hw2 : IntKind.i64.wrap ((a' : Int) + 1) = ((a' + 1 : Nat) : Int) := by rw [IntWalk.i64_in _ (by omega)]; omega
                  clear x3 k3
                  go_wp2
                  go_roundg gk
                  case measure => omega
                  case rel =>
                    exact ⟨a' + 1, o, rfl, by omega, HW.out, by omega, by omega, X3.out.set1 (a' + 1), kept_at K3.out 1 _ (fun _ => rfl)⟩
              · rw [if_neg h34] at hw
                have b34 : ((c.toNat : Int) == 34) = false := by simp; omega
                have HW := Lib.hid hw
                clear hw h40 h41 h92 h39 h34
                go_wp2
                go_roundg gk
                case measure => omega
                case rel =>
                  exact ⟨a + 1, o, rfl, by omega, HW.out, by omega, by omega, by rw [E1.out]; exact HX.out.set1 (a + 1), kept_at HK.out 1 _ (fun _ => rfl)⟩

def DRel (xb : Nat) (s : ByteArray) (bash : Bool) (deep : Int) (K : Nat) (r : R Unit) (w : World) (g : Nat) (wr : World) : Prop :=
  ∃ a, g ≤ K ∧ doubleS s g a = r ∧ a ≤ s.size + 2 ∧ ScanAt wr xb s a bash deep ∧ Kept (fun k => k = xb) w wr

set_option maxRecDepth 100000 in
set_option maxHeartbeats 4000000 in
theorem double_step (xb : Nat) (s : ByteArray) (bash : Bool) (deep : Int) (K : Nat) (hs : s.size ≤ 1152921504606846976) (ihc : ∀ k, k < K → ClosedOK xb s bash deep k) : DoubleOK xb s bash deep K := by
  intro a w ha hx hr
  obtain ⟨r, hre⟩ : ∃ r, doubleS s K (a + 1) = r := ⟨_, rfl⟩
  rw [hre] at hr ⊢
  have HX := Lib.hid hx
  have HRE := Lib.hid hre
  have HR := Lib.hid hr
  have HD := Lib.hid ihc
  have hxl := hx.lt
  have c1 := hx.c1
  have f1 := hx.f 1
  have hw0 : IntKind.i64.wrap ((a : Int) + 1) = ((a + 1 : Nat) : Int) := by rw [IntWalk.i64_in _ (by omega)]; omega
  clear hx hre hr ihc
  go_enter Tryz.func40, Tryz.ntmps40
  go_wp2
  go_loopg [9] K (fun g _ wr => DRel xb s bash deep K r w g wr)
  case atStart => exact ⟨a + 1, Nat.le_refl _, HRE.out, by omega, HX.out.set1 (a + 1), kept_at (Kept.refl _ _) 1 _ (fun _ => rfl)⟩
  case round =>
    obtain ⟨a, hgK, hw, ha, hx, hk⟩ := hrel
    cases gk with
    | zero => exact (HR.out (by rw [← hw, doubleS])).elim
    | succ gk =>
    rw [doubleS] at hw
    clear c1 f1 hw0
    have c0 := hx.c0
    have c1 := hx.c1
    have HX := Lib.hid hx
    have HK := Lib.hid hk
    clear hx hk
    by_cases hge : s.size ≤ a
    · rw [if_pos hge] at hw
      have HW := Lib.hid hw
      clear hw
      go_wp2_with fail
      refine (more_no xb s a bash deep wr hge HX.out).mono ?_
      rintro e w1 ⟨he, m, rfl⟩
      unfold Faults at he
      subst he
      refine ⟨rfl, ?_⟩
      rw [← HW.out]
      exact ⟨rfl, HK.out.drewN m⟩
    · rw [if_neg hge] at hw
      have hlt : a < s.size := by omega
      have hix := ixAt (s := s) (i := (a : Int)) (k := a) rfl hlt
      have hlt2 : (a : Int) < s.size := by omega
      obtain ⟨c, hc⟩ : ∃ c, c = oct s a := ⟨_, rfl⟩
      rw [← hc] at hw hix
      clear hge hc
      have HW := Lib.hid hw
      clear hw
      go_wp2_with fail
      refine (more_yes xb s a bash deep wr hlt HX.out).mono ?_
      rintro e w1 ⟨rfl, m, rfl⟩
      go_wp2
      go_quiet (fail)
      go_upto_region 4 with fail
      generalize hwq : World.drewN _ _ = wq
      have kq : Kept (fun _ => False) wr wq := by rw [← hwq]; exact ((Kept.refl _ _).drewN _).drewN _
      have xq := HX.out.kept kq (fun f => f)
      have kkq := HK.out.trans kq (fun _ _ f => f.elim)
      clear hwq kq HX HK c0 c1
      have q0 := xq.c0
      have q1 := xq.c1
      have g1 := xq.f 1
      have HX := Lib.hid xq
      have HK := Lib.hid kkq
      clear xq kkq
      have hw1 : IntKind.i64.wrap ((a : Int) + 1) = (a : Int) + 1 := IntWalk.i64_in _ (by omega)
      have e1 : (a : Int) + 1 = ((a + 1 : Nat) : Int) := by omega
      have e2 : (a : Int) + 1 + 1 = ((a + 2 : Nat) : Int) := by omega
      have E1 := Lib.hid e1
      have E2 := Lib.hid e2
      clear e1 e2
      have hw := HW.out
      clear HW
      by_cases h34 : c.toNat = 34
      · rw [if_pos h34] at hw
        have b34 : ((c.toNat : Int) == 34) = true := by simp [h34]
        have HW := Lib.hid hw
        clear hw h34
        go_wp2
        (try simp only [Exit.inBlock, Exit.then])
        refine bodyPost_ret (results_none rfl _ _ _) rfl ?_
        rw [← HW.out]
        exact ⟨rfl, HX.out, HK.out⟩
      · rw [if_neg h34] at hw
        have b34 : ((c.toNat : Int) == 34) = false := by simp; omega
        by_cases h92 : c.toNat = 92
        · rw [if_pos h92] at hw
          have b92 : ((c.toNat : Int) == 92) = true := by simp [h92]
          have hw2 : IntKind.i64.wrap ((a : Int) + 1 + 1) = (a : Int) + 1 + 1 := IntWalk.i64_in _ (by omega)
          have HW := Lib.hid hw
          clear hw h34 h92
          go_wp2
          go_roundg gk
          case measure => omega
          case rel =>
            exact ⟨a + 2, by omega, HW.out, by omega, by rw [E2.out]; exact (HX.out.set1 (a + 1)).set1 (a + 2), kept_at (kept_at HK.out 1 _ (fun _ => rfl)) 1 _ (fun _ => rfl)⟩
        · rw [if_neg h92] at hw
          have b92 : ((c.toNat : Int) == 92) = false := by simp; omega
          by_cases h36 : c.toNat = 36
          · have b36 : ((c.toNat : Int) == 36) = true := by simp [h36]
            obtain ⟨d, hd⟩ : ∃ d, d = oct s (a + 1) := ⟨_, rfl⟩
            have hpk := peek_any xb s a 1 bash deep wq (by omega) (by omega) HX.out
            rw [← hd] at hw hpk
            have HP := Lib.hid hpk
            clear hpk hd
            by_cases h40 : d.toNat = 40
            · rw [if_pos ⟨h36, h40⟩] at hw
              have b40 : ((d.toNat : Int) == 40) = true := by simp [h40]
              have hw2 : IntKind.i64.wrap ((a : Int) + 2) = ((a + 2 : Nat) : Int) := by rw [IntWalk.i64_in _ (by omega)]; omega
              have hcall := fun wx hx' hne => HD.out gk (by omega) (a + 2) wx (by omega) hx' hne
              have hbd := (closed_bounds s gk).1 (a + 2) 0
              obtain ⟨ra, hra⟩ : ∃ ra, closedS s gk (a + 2) 0 = ra := ⟨_, rfl⟩
              rw [hra] at hw hcall hbd
              have HW := Lib.hid hw
              have HCA := Lib.hid hcall
              have HBD := Lib.hid hbd
              clear hw hcall hra hbd h40 h36 h92 h34
              go_wp2_with fail
              refine HP.out.mono ?_
              rintro e w2 ⟨rfl, m2, rfl⟩
              cases ra with
              | out => exact (HR.out HW.out.symm).elim
              | bad a' er =>
                go_wp2_with fail
                refine (HCA.out _ ((HX.out.drewN m2).set1 (a + 2)) (by simp)).mono ?_
                rintro e w3 ⟨he, k3⟩
                unfold Faults at he
                subst he
                refine ⟨rfl, ?_⟩
                rw [← HW.out]
                exact ⟨rfl, (kept_at (HK.out.drewN m2) 1 _ (fun _ => rfl)).next k3⟩
              | ok u a' =>
                have hb2 := HBD.out a' u rfl
                go_wp2_with fail
                refine (HCA.out _ ((HX.out.drewN m2).set1 (a + 2)) (by simp)).mono ?_
                rintro e w3 ⟨rfl, x3, k3⟩
                have d1 := x3.c1
                have d2 := x3.f 1
                have X3 := Lib.hid x3
                have K3 := Lib.hid ((kept_at (HK.out.drewN m2) 1 _ (fun _ => rfl)).next k3)
                have hw3 : IntKind.i64.wrap ((a' : Int) + 1) = ((a' + 1 : Nat) : Int) := by rw [IntWalk.i64_in _ (by omega)]; omega
                clear x3 k3
                go_wp2
                go_roundg gk
                case measure => omega
                case rel =>
                  exact ⟨a' + 1, by omega, HW.out, by omega, X3.out.set1 (a' + 1), kept_at K3.out 1 _ (fun _ => rfl)⟩
            · rw [if_neg (fun h => h40 h.2)] at hw
              have b40 : ((d.toNat : Int) == 40) = false := by simp; omega
              have HW := Lib.hid hw
              clear hw h34 h92 h36 h40
              go_wp2_with fail
              refine HP.out.mono ?_
              rintro e w2 ⟨rfl, m2, rfl⟩
              go_wp2
              go_roundg gk
              case measure => omega
              case rel =>
                exact ⟨a + 1, by omega, HW.out, by omega, by rw [E1.out]; exact (HX.out.drewN m2).set1 (a + 1), kept_at (HK.out.drewN m2) 1 _ (fun _ => rfl)⟩
          · rw [if_neg (fun h => h36 h.1)] at hw
            have b36 : ((c.toNat : Int) == 36) = false := by simp; omega
            have HW := Lib.hid hw
            clear hw h34 h92 h36
            go_wp2
            go_roundg gk
            case measure => omega
            case rel =>
              exact ⟨a + 1, by omega, HW.out, by omega, by rw [E1.out]; exact HX.out.set1 (a + 1), kept_at HK.out 1 _ (fun _ => rfl)⟩

theorem closed_double (xb : Nat) (s : ByteArray) (bash : Bool) (deep : Int) (hs : s.size ≤ 1152921504606846976) (K : Nat) : ClosedOK xb s bash deep K ∧ DoubleOK xb s bash deep K := by
  induction K using Nat.strongRecOn with
  | _ K ih => exact ⟨closed_step xb s bash deep K hs (fun k hk => (ih k hk).2), double_step xb s bash deep K hs (fun k hk => (ih k hk).1)⟩

/-- The rounds do not run out. -/
theorem closed_fuel (s : ByteArray) : ∀ k, 1 ≤ k → (∀ a o, s.size + 1 ≤ k + a → closedS s k a o ≠ .out) ∧ (∀ a, s.size + 1 ≤ k + a → doubleS s k a ≠ .out) := by
  intro k
  induction k with
  | zero => intro h; omega
  | succ k ih =>
    intro _
    constructor
    · intro a o h
      rw [closedS]
      split
      · simp
      · have ih' := ih (by omega)
        split
        · exact ih'.1 _ _ (by omega)
        split
        · split
          · simp
          · exact ih'.1 _ _ (by omega)
        split
        · exact ih'.1 _ _ (by omega)
        split
        · simp only
          split
          · simp
          · exact ih'.1 _ _ (by omega)
        split
        · have h2 := ih'.2 (a + 1) (by omega)
          have h3 := (closed_bounds s k).2 (a + 1)
          cases hd : doubleS s k (a + 1) with
          | out => exact absurd hd h2
          | bad a1 e1 => simp
          | ok u1 a1 =>
            have := h3 _ _ hd
            exact ih'.1 _ _ (by omega)
        · exact ih'.1 _ _ (by omega)
    · intro a h
      rw [doubleS]
      split
      · simp
      · have ih' := ih (by omega)
        split
        · simp
        split
        · exact ih'.2 _ (by omega)
        split
        · have h2 := ih'.1 (a + 2) 0 (by omega)
          have h3 := (closed_bounds s k).1 (a + 2) 0
          cases hd : closedS s k (a + 2) 0 with
          | out => exact absurd hd h2
          | bad a1 e1 => simp
          | ok u1 a1 =>
            have := h3 _ _ hd
            exact ih'.2 _ (by omega)
        · exact ih'.2 _ (by omega)

theorem closed_any (xb : Nat) (s : ByteArray) (a : Nat) (bash : Bool) (deep : Int) (w : World) (hs : s.size ≤ 1152921504606846976) (ha : a ≤ s.size) (hx : ScanAt w xb s a bash deep) :
    Calls Tryz.prog 24 #[.pointer (some ⟨xb, 0, none⟩)] w (ClosedPost xb s bash deep w (closedS s (s.size + 2 - a) a 0)) :=
  (closed_double xb s bash deep hs (s.size + 2 - a)).1 a w (by omega) hx ((closed_fuel s (s.size + 2 - a) (by omega)).1 a 0 (by omega))

set_option maxRecDepth 100000 in
set_option maxHeartbeats 1000000 in
theorem raw_any (xb : Nat) (s : ByteArray) (kind : Int) (quoted : Bool) (a : Nat) (bash : Bool) (deep : Int) (w : World) (hs : s.size ≤ 1152921504606846976) (ha : a ≤ s.size) (hx : ScanAt w xb s a bash deep) :
    Calls Tryz.prog 32 #[.pointer (some ⟨xb, 0, none⟩), .int .i64 kind, .bool quoted] w (PartPost xb s bash deep w (rawS s kind quoted a)) := by
  have c1 := hx.c1
  have hxl := hx.lt
  have hcall := fun wx (hx' : ScanAt wx xb s a bash deep) => closed_any xb s a bash deep wx hs ha hx'
  have hbd := (closed_bounds s (s.size + 2 - a)).1 a 0
  have hne := (closed_fuel s (s.size + 2 - a) (by omega)).1 a 0 (by omega)
  unfold rawS
  obtain ⟨ra, hra⟩ : ∃ ra, closedS s (s.size + 2 - a) a 0 = ra := ⟨_, rfl⟩
  rw [hra] at hcall hbd hne ⊢
  have HX := Lib.hid hx
  have HCA := Lib.hid hcall
  have HBD := Lib.hid hbd
  have HNE := Lib.hid hne
  clear hx hcall hbd hra hne
  go_enter Tryz.func32, Tryz.ntmps32
  cases ra with
  | out => exact (HNE.out rfl).elim
  | bad a' er =>
    go_wp2_with fail
    refine (HCA.out _ (HX.out.alloc _)).mono ?_
    rintro e w3 ⟨he, k3⟩
    unfold Faults at he
    subst he
    exact ⟨rfl, rfl, ((Kept.refl _ _).alloc _).next k3⟩
  | ok u a' =>
    have hb2 := HBD.out a' u rfl
    have hsl := slAt (s := s) (i := (a : Int)) (j := (a' : Int)) (a := a) (b := a') (by omega) (by omega) (by omega) (by omega)
    have hw1 : IntKind.i64.wrap ((a' : Int) + 1) = ((a' + 1 : Nat) : Int) := by rw [IntWalk.i64_in _ (by omega)]; omega
    go_wp2_with fail
    refine (HCA.out _ (HX.out.alloc _)).mono ?_
    rintro e w3 ⟨rfl, x3, k3⟩
    have hrb : w3.heap[w.heap.size]? = some (.cells partZ 32 (0, 0)) := (k3.block _ (by simp) (by omega)).trans (heap_alloc_new _ _)
    have d0 := x3.c0
    have d1 := x3.c1
    have d2 := x3.f 1
    obtain ⟨r0, r1, r2, r3, r4, r5, r6, r7, r8, r9⟩ := partZ_cells hrb
    have gr := free_at hrb
    have hlq := heap_lt hrb
    have X3 := Lib.hid x3
    have K3 := Lib.hid (((Kept.refl _ _).alloc _).next k3)
    have HRB := Lib.hid hrb
    clear x3 k3 hrb
    go_wp2
    have hrb2 : (w3.setCell ⟨xb, 1, none⟩ (.int .i64 ((a' + 1 : Nat) : Int))).heap[w.heap.size]? = some (.cells partZ 32 (0, 0)) := heap_setCell_keep HRB.out _ _ (by simp; omega)
    refine bodyPost_ret (results_part rfl rfl (ten_set hrb2 _ _ _ _ _ _ _ _ _ _)) rfl ?_
    refine ⟨_, _, _, _, rfl, Rep.nil _ _, Rep.nil _ _, Rep.nil _ _, Rep.nil _ _, ten_scan _ _ _ _ _ _ _ _ _ _ (X3.out.set1 (a' + 1)) (by omega), ten_kept _ _ _ _ _ _ _ _ _ _ ?_ (fun h => absurd h (Nat.lt_irrefl _))⟩
    exact K3.out.setCell ⟨xb, 1, none⟩ _ (fun _ => rfl)

end Go.Proofs.YtfkdeknblbmibaaGreatDoor
