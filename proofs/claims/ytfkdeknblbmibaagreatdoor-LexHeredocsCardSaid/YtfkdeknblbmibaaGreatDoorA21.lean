/-
  PLAIN LAWS: what 'wordS' answers at the texts of LexQuoted, LexPlain and LexDoubled.
-/
import Derived.Test.YtfkdeknblbmibaaGreatDoorA20
namespace Go.Proofs.YtfkdeknblbmibaaGreatDoor
open Go.RowKit

/-! ### What Word reads at the laws' texts -/

theorem ixI_empty (c : UInt8) : ixI ⟨#[]⟩ c = -1 := rfl

theorem data_ext {a b : ByteArray} (h : a.data.toList = b.data.toList) : a = b := by
  cases a; cases b; simp at h; cases h; rfl

theorem ixb_no {l : List UInt8} {c : UInt8} (h : ¬ c ∈ l) : Lib.indexByte l c = -1 := by
  induction l with
  | nil => rfl
  | cons b l ih =>
    have hb : (b == c) = false := by
      cases hb : b == c with
      | false => rfl
      | true => exact absurd (by rw [eq_of_beq hb]; simp) h
    have hl := ih (fun hc => h (by simp [hc]))
    unfold Lib.indexByte
    rw [hb, hl]
    rfl

theorem ixb_app {l : List UInt8} {c : UInt8} (m : List UInt8) (h : ¬ c ∈ l) : Lib.indexByte (l ++ c :: m) c = l.length := by
  induction l with
  | nil => simp [Lib.indexByte]
  | cons b l ih =>
    have hb : (b == c) = false := by
      cases hb : b == c with
      | false => rfl
      | true => exact absurd (by rw [eq_of_beq hb]; simp) h
    have hl := ih (fun hc => h (by simp [hc]))
    rw [List.cons_append]
    unfold Lib.indexByte
    rw [hb, hl, if_neg (by simp), if_neg (by simp)]
    simp

/-- s in ' '. -/
theorem word_quoted (t s rest : ByteArray) (bash : Bool) (ht : t.data.toList = 39 :: (s.data.toList ++ 39 :: 32 :: rest.data.toList)) (hq : ¬ (39 : UInt8) ∈ s.data.toList) (h0 : ¬ (0 : UInt8) ∈ s.data.toList) :
    wordS t bash = .ok [{ kind := 1, text := s, quoted := true }] (s.size + 2) := by
  have hsz : t.size = s.size + rest.size + 3 := by
    have := congrArg List.length ht
    simp at this
    omega
  have o0 : oct t 0 = 39 := by unfold oct; rw [ht]; rfl
  have o2 : oct t (s.size + 2) = 32 := by
    unfold oct; rw [ht]
    simp only [List.getD_eq_getElem?_getD, List.getElem?_cons_succ]
    rw [List.getElem?_append_right (by simp)]
    simp
  have hd : t.data.toList.drop (0 + 1) = s.data.toList ++ 39 :: 32 :: rest.data.toList := by rw [ht]; rfl
  have hix : Lib.indexByte (s.data.toList ++ 39 :: 32 :: rest.data.toList) 39 = s.size := by
    rw [ixb_app _ hq]
    simp
  have hx : t.extract 1 (1 + s.size) = s := by
    apply data_ext
    rw [ByteArray.data_extract, Array.toList_extract, List.extract_eq_take_drop, ht]
    simp
  have hz : ixI s 0 < 0 := by
    unfold ixI
    rw [ixb_no h0]; decide
  have hquo : quotedS t 0 = .ok { kind := 1, text := s, quoted := true } (s.size + 2) := by
    unfold quotedS
    simp only [hd, hix]
    rw [if_neg (by omega)]
    simp only [Nat.zero_add, Int.toNat_natCast, hx]
    rw [if_neg (by omega)]
  unfold wordS
  obtain ⟨k, hk⟩ : ∃ k, t.size + 1 = k + 1 + 1 := ⟨t.size - 1, by omega⟩
  rw [hk, partsS, if_neg (by omega), if_neg (by rw [ixI_empty]; omega), if_neg (by rw [prefix_no (by rw [o0]; decide)]; simp), o0, if_neg (by decide), if_pos (by decide), hquo]
  simp only
  rw [partsS, if_neg (by omega), if_neg (by rw [ixI_empty]; omega), if_neg (by rw [prefix_no (by rw [o2]; decide)]; simp), o2, if_pos (by decide)]
  rfl


/-- Octets that need no quotes. -/
def plainOct (c : UInt8) : Bool := (97 ≤ c.toNat && c.toNat ≤ 122) || (65 ≤ c.toNat && c.toNat ≤ 90) || c.toNat == 95 || (48 ≤ c.toNat && c.toNat ≤ 57) || c.toNat == 45 || c.toNat == 46 || c.toNat == 47 || c.toNat == 58 || c.toNat == 44 || c.toNat == 43 || c.toNat == 61 || c.toNat == 64 || c.toNat == 37

theorem plainOct_ne {c d : UInt8} (h : plainOct c = true) (hd : plainOct d = false) : ¬ c = d := by
  rintro rfl
  rw [h] at hd
  cases hd

theorem plainOct_meta {c : UInt8} (h : plainOct c = true) : ¬ 0 ≤ ixI metaB c := by
  unfold ixI
  rw [ixb_no]
  · decide
  · intro hm
    simp only [metaB, List.mem_cons, List.not_mem_nil, or_false] at hm
    rcases hm with e | e | e | e | e | e | e | e | e | e <;> exact plainOct_ne h (by decide) e

theorem plainS_one (c : UInt8) : plainS [] c = [{ kind := 1, text := ⟨#[c]⟩ }] := rfl
theorem plainS_more (t : ByteArray) (c : UInt8) : plainS [{ kind := 1, text := t }] c = [{ kind := 1, text := t ++ ⟨#[c]⟩ }] := by
  simp [plainS]

/-- What is read of w so far. -/
def readS (w : List UInt8) : List Pt := if w = [] then [] else [{ kind := 1, text := ⟨w.toArray⟩ }]
theorem readS_snoc (w : List UInt8) (c : UInt8) : plainS (readS w) c = readS (w ++ [c]) := by
  unfold readS
  by_cases h : w = []
  · subst h; rfl
  · rw [if_neg h, if_neg (by simp), plainS_more]
    have : (⟨w.toArray⟩ : ByteArray) ++ ⟨#[c]⟩ = ⟨(w ++ [c]).toArray⟩ := data_ext (by simp)
    rw [this]

/-- Octets that need no quotes are gone past. -/
theorem parts_plain (t : ByteArray) (bash : Bool) (dT dF : Nat → R Pt) (post : List UInt8) : ∀ (w pre : List UInt8) (k : Nat), t.data.toList = pre ++ (w ++ post) → (∀ c ∈ w, plainOct c = true) →
    partsS t bash dT dF ⟨#[]⟩ metaB (k + w.length) pre.length (readS pre) = partsS t bash dT dF ⟨#[]⟩ metaB k (pre ++ w).length (readS (pre ++ w))
  | [], pre, k, _, _ => by simp
  | c :: w, pre, k, h, hw => by
    have hc := hw c (by simp)
    obtain ⟨h1, h2, h3⟩ := oct_mid (s := t) (pre := pre) (post := w ++ post) (c := c) h
    have ih := parts_plain t bash dT dF post w (pre ++ [c]) k (by rw [h]; simp) (fun d hd => hw d (by simp [hd]))
    have key : ∀ d : UInt8, plainOct d = false → ¬ c.toNat = d.toNat := fun d hd e => plainOct_ne hc hd (UInt8.toNat_inj.1 e)
    have k1 : ¬ c.toNat = 39 := key 39 (by decide)
    have k2 : ¬ c.toNat = 34 := key 34 (by decide)
    have k3 : ¬ c.toNat = 92 := key 92 (by decide)
    have k4 : ¬ c.toNat = 36 := key 36 (by decide)
    have k5 : ¬ c.toNat = 96 := key 96 (by decide)
    have k6 : ¬ c.toNat = 0 := key 0 (by decide)
    have k7 : ¬ c.toNat = 60 := key 60 (by decide)
    rw [List.length_cons, show k + (w.length + 1) = (k + w.length) + 1 by omega, partsS, if_neg (show ¬ t.size ≤ pre.length by omega), if_neg (by rw [ixI_empty]; omega), if_neg (by rw [prefix_no (by rw [h1]; exact k7)]; simp), h1, if_neg (by rintro ⟨_, h⟩; exact plainOct_meta hc h), if_neg k1, if_neg k2, if_neg k3, if_neg k4, if_neg (fun h => h.elim k5 k6), readS_snoc]
    rw [List.length_append, List.length_singleton] at ih
    rw [ih]
    simp

/-- s, with a blank behind it. -/
theorem word_plain (t s : ByteArray) (bash : Bool) (ht : t.data.toList = s.data.toList ++ [32, 120]) (hs : s.data.toList ≠ []) (hp : ∀ c ∈ s.data.toList, plainOct c = true) :
    wordS t bash = .ok [{ kind := 1, text := s }] s.size := by
  have hsz : t.size = s.size + 2 := by
    have := congrArg List.length ht
    simp at this
    omega
  have hl : s.data.toList.length = s.size := by simp
  obtain ⟨h1, h2, h3⟩ := oct_mid (s := t) (pre := s.data.toList) (post := [120]) (c := 32) ht
  rw [hl] at h1 h2
  have := parts_plain t bash (dollarS t bash true) (dollarS t bash false) [32, 120] s.data.toList [] 3 (by simpa using ht) hp
  unfold wordS
  rw [hsz, show s.size + 2 + 1 = 3 + s.data.toList.length by omega]
  simp only [List.length_nil, List.nil_append] at this
  rw [show readS [] = ([] : List Pt) from rfl] at this
  rw [this, hl, show (3 : Nat) = 2 + 1 from rfl, partsS, if_neg (by omega), if_neg (by rw [ixI_empty]; omega), if_neg (by rw [prefix_no (by rw [h1]; decide)]; simp), h1, if_pos (by decide)]
  unfold readS
  rw [if_neg hs]

/-! ### s in " ", backslashes ahead of what is special -/

def specialOct (c : UInt8) : Bool := c == 34 || c == 36 || c == 92 || c == 96
def escS (w : List UInt8) : List UInt8 := w.flatMap (fun c => if specialOct c then [92, c] else [c])

theorem escS_cons (c : UInt8) (w : List UInt8) : escS (c :: w) = (if specialOct c then [92, c] else [c]) ++ escS w := by simp [escS]
theorem escS_append (w v : List UInt8) : escS (w ++ v) = escS w ++ escS v := by simp [escS]

theorem within_esc (t : ByteArray) (d : Nat → R Pt) (post : List UInt8) : ∀ (w pre v : List UInt8), t.data.toList = pre ++ (escS w ++ post) → (∀ c ∈ w, c ≠ 0) →
    ∃ m, m ≤ (escS w).length ∧ ∀ k, withinS t d ⟨#[34]⟩ (k + m) pre.length [] v = withinS t d ⟨#[34]⟩ k (pre ++ escS w).length [] (v ++ w)
  | [], pre, v, _, _ => ⟨0, by simp, fun k => by simp [escS]⟩
  | c :: w, pre, v, h, hw => by
    have h0 := hw c (by simp)
    have h0' : ¬ c.toNat = 0 := fun e => h0 (UInt8.toNat_inj.1 e)
    rw [escS_cons] at h
    cases hsp : specialOct c with
    | true =>
      rw [hsp] at h
      simp only [if_true] at h
      obtain ⟨h1, h2, h3⟩ := oct_mid (s := t) (pre := pre) (post := c :: (escS w ++ post)) (c := 92) (by rw [h]; simp)
      obtain ⟨g1, g2, g3⟩ := oct_mid (s := t) (pre := pre ++ [92]) (post := escS w ++ post) (c := c) (by rw [h]; simp)
      rw [List.length_append, List.length_singleton] at g1 g2
      obtain ⟨m, hm, ih⟩ := within_esc t d post w (pre ++ [92, c]) (v ++ [c]) (by rw [h]; simp) (fun d hd => hw d (by simp [hd]))
      refine ⟨m + 1, by rw [escS_cons, hsp]; simp; omega, fun k => ?_⟩
      have hix : 0 ≤ ixI escapedB c := by
        simp only [specialOct, Bool.or_eq_true, beq_iff_eq] at hsp
        rcases hsp with ((rfl | rfl) | rfl) | rfl <;> decide
      have h10 : ¬ c.toNat = 10 := by
        simp only [specialOct, Bool.or_eq_true, beq_iff_eq] at hsp
        rcases hsp with ((rfl | rfl) | rfl) | rfl <;> decide
      have hsl : slashS t pre.length = ([c], pre.length + 2) := by
        unfold slashS
        simp only [g1]
        rw [if_neg h10, if_pos ⟨h0', hix⟩]
      have := ih k
      rw [← Nat.add_assoc, withinS, if_neg (show ¬ t.size ≤ pre.length by omega), h1, if_neg (show ¬ 0 ≤ ixI ⟨#[34]⟩ 92 by decide), if_pos (show UInt8.toNat 92 = 92 from rfl), hsl]
      simp only
      rw [List.length_append] at this
      simp only [List.length_cons, List.length_nil] at this
      rw [this, escS_cons, hsp]
      simp
    | false =>
      rw [hsp] at h
      simp only [Bool.false_eq_true, if_false] at h
      obtain ⟨h1, h2, h3⟩ := oct_mid (s := t) (pre := pre) (post := escS w ++ post) (c := c) (by rw [h]; simp)
      obtain ⟨m, hm, ih⟩ := within_esc t d post w (pre ++ [c]) (v ++ [c]) (by rw [h]; simp) (fun d hd => hw d (by simp [hd]))
      refine ⟨m + 1, by rw [escS_cons, hsp]; simp; omega, fun k => ?_⟩
      simp only [specialOct, Bool.or_eq_false_iff, beq_eq_false_iff_ne, ne_eq] at hsp
      have key : ∀ n : UInt8, ¬ c = n → ¬ c.toNat = n.toNat := fun n hn e => hn (UInt8.toNat_inj.1 e)
      have k1 : ¬ c.toNat = 92 := key 92 hsp.1.2
      have k2 : ¬ c.toNat = 36 := key 36 hsp.1.1.2
      have k3 : ¬ c.toNat = 96 := key 96 hsp.2
      have hix : ¬ 0 ≤ ixI ⟨#[34]⟩ c := by
        unfold ixI
        rw [ixb_no]
        · decide
        · intro hm; simp at hm; exact hsp.1.1.1 hm
      have := ih k
      rw [← Nat.add_assoc, withinS, if_neg (show ¬ t.size ≤ pre.length by omega), h1, if_neg hix, if_neg k1, if_neg k2, if_neg (fun h => h.elim k3 h0')]
      rw [List.length_append, List.length_singleton] at this
      rw [this, escS_cons, show specialOct c = false by simp [specialOct, hsp]]
      simp

theorem word_doubled (t s : ByteArray) (bash : Bool) (ht : t.data.toList = 34 :: (escS s.data.toList ++ [34])) (h0 : ∀ c ∈ s.data.toList, c ≠ 0) :
    wordS t bash = .ok [{ kind := 1, text := s, quoted := true }] t.size := by
  have hsz : t.size = (escS s.data.toList).length + 2 := by
    have := congrArg List.length ht
    simp at this
    omega
  have o0 : oct t 0 = 34 := by unfold oct; rw [ht]; rfl
  obtain ⟨h1, h2, h3⟩ := oct_mid (s := t) (pre := 34 :: escS s.data.toList) (post := []) (c := 34) (by rw [ht]; simp)
  rw [List.length_cons] at h1 h2
  obtain ⟨m, hm, hg⟩ := within_esc t (dollarS t bash true) [34] s.data.toList [34] [] (by rw [ht]; simp) h0
  have hdo : doubledS t (dollarS t bash true) 0 = .ok [{ kind := 1, text := s, quoted := true }] t.size := by
    unfold doubledS
    obtain ⟨k, hk⟩ : ∃ k, t.size + 1 - 0 = (k + 1) + m := ⟨t.size - m, by omega⟩
    have := hg (k + 1)
    simp only [List.length_cons, List.length_nil, Nat.zero_add, List.nil_append, List.cons_append] at this
    rw [hk, Nat.zero_add, this, withinS, if_neg (show ¬ t.size ≤ _ by omega), h1, if_pos (by decide)]
    simp only
    rw [hsz]
    unfold flushS
    by_cases hs : s.data.toList = []
    · rw [if_pos hs, if_pos rfl]
      have : s = ⟨#[]⟩ := data_ext hs
      rw [this]
    · rw [if_neg hs, if_neg (by simp)]
      have : (⟨s.data.toList.toArray⟩ : ByteArray) = s := data_ext (by simp)
      rw [this]; rfl
  unfold wordS
  obtain ⟨k, hk⟩ : ∃ k, t.size + 1 = k + 1 + 1 := ⟨t.size - 1, by omega⟩
  rw [hk, partsS, if_neg (by omega), if_neg (by rw [ixI_empty]; omega), if_neg (by rw [prefix_no (by rw [o0]; decide)]; simp), o0, if_neg (by decide), if_neg (by decide), if_pos (by decide), hdo]
  simp only
  rw [partsS, if_pos (by omega), if_pos (show (⟨#[]⟩ : ByteArray).data.toList.isEmpty = true from rfl)]
  rfl

end Go.Proofs.YtfkdeknblbmibaaGreatDoor
