/-
  WORDS OF THESE PROOFS, of no program: what a call may have changed ('Kept'), what a value reads as ('T', 'Rep'), a slice that the call itself builds ('Owns').
-/
import Derived.WalkKit
import Derived.WalkSpells
import Derived.WalkLawsBesides
import Derived.Lib.Hide
import Derived.Lib.IndexBytes
import Derived.Deep.AppendLies
namespace Go.Proofs.YtfkdeknblbmibaaGreatDoor
open Go.RowKit

/-- But for the old blocks of S the world is as it was. -/
structure Kept (S : Nat → Prop) (w w' : World) : Prop where
  os : w'.os = w.os
  tape : w'.tape = w.tape
  output : w'.output = w.output
  size : w.heap.size ≤ w'.heap.size
  block : ∀ k, k < w.heap.size → ¬ S k → w'.heap[k]? = w.heap[k]?

namespace Kept
variable {S S' : Nat → Prop} {a b c w w' : World}

theorem refl (S : Nat → Prop) (w : World) : Kept S w w := ⟨rfl, rfl, rfl, Nat.le_refl _, fun _ _ _ => rfl⟩

theorem trans (h : Kept S a b) (k : Kept S' b c) (hs : ∀ i, i < a.heap.size → S' i → S i) : Kept S a c :=
  ⟨k.os.trans h.os, k.tape.trans h.tape, k.output.trans h.output, Nat.le_trans h.size k.size,
   fun i hi hn => (k.block i (Nat.lt_of_lt_of_le hi h.size) (fun hk => hn (hs i hi hk))).trans (h.block i hi hn)⟩

theorem mono (h : Kept S a b) (hs : ∀ i, i < a.heap.size → S i → S' i) : Kept S' a b :=
  ⟨h.os, h.tape, h.output, h.size, fun i hi hn => h.block i hi (fun hk => hn (hs i hi hk))⟩

theorem next (h : Kept S a b) (k : Kept S b c) : Kept S a c := h.trans k (fun _ _ x => x)

theorem drewN (h : Kept S a b) (n : Nat) : Kept S a (b.drewN n) := ⟨h.os, h.tape, h.output, h.size, h.block⟩
theorem drew (h : Kept S a b) : Kept S a b.drew := ⟨h.os, h.tape, h.output, h.size, h.block⟩

theorem alloc (h : Kept S a b) (o : Obj) : Kept S a (b.alloc o) :=
  ⟨h.os, h.tape, h.output, by have := h.size; simp; omega, fun k hk hn => by
    rw [Below.heap_alloc b o k (Nat.lt_of_lt_of_le hk h.size)]; exact h.block k hk hn⟩

theorem setCell (h : Kept S a b) (p : Addr) (v : Value) (hp : p.block < a.heap.size → S p.block) : Kept S a (b.setCell p v) :=
  ⟨h.os, h.tape, h.output, by have := h.size; simp [World.setCell]; omega, fun k hk hn => by
    rw [Below.heap_setCell b p v k (fun e => hn (e ▸ hp (e ▸ hk)))]; exact h.block k hk hn⟩

theorem grown {row : Option Nat} (h : Kept S a b) (hg : b.grownBy c row) (hr : ∀ k, row = some k → k < a.heap.size → S k) : Kept S a c :=
  ⟨hg.os.trans h.os, hg.tape.trans h.tape, hg.output.trans h.output, Nat.le_trans h.size hg.size, fun k hk hn =>
    (hg.block k (Nat.lt_of_lt_of_le hk h.size) (fun e => hn (hr k e.symm hk))).trans (h.block k hk hn)⟩

theorem cell (h : Kept S w w') {p : Addr} (hp : p.block < w.heap.size) (hn : ¬ S p.block) : w'.cell? p = w.cell? p :=
  World.cell?_of_block (w := w) (h.block _ hp hn)
theorem frozen (h : Kept S w w') {p : Addr} (hp : p.block < w.heap.size) (hn : ¬ S p.block) : w'.frozen? p = w.frozen? p :=
  World.frozen?_of_block (w := w) (h.block _ hp hn)
theorem below (h : Kept (fun _ => False) w w') : Below w.heap.size w w' := ⟨h.os, h.tape, h.output, h.size, fun k hk => h.block k hk (fun f => f)⟩
theorem of_below {B : Nat} (h : Below B w w') : Kept (fun k => B ≤ k) w w' := ⟨h.os, h.tape, h.output, h.size, fun k _ hn => h.block k (by omega)⟩
theorem of_grown {row : Option Nat} (h : w.grownBy w' row) : Kept (fun k => row = some k) w w' := ⟨h.os, h.tape, h.output, h.size, fun k hk hn => h.block k hk (fun e => hn e.symm)⟩
end Kept

theorem heap_lt {w : World} {b : Nat} {o : Obj} (h : w.heap[b]? = some o) : b < w.heap.size := (Array.getElem?_eq_some_iff.1 h).1

theorem heap_alloc_keep {w : World} {b : Nat} {o : Obj} (h : w.heap[b]? = some o) (x : Obj) : (w.alloc x).heap[b]? = some o := by
  rw [Below.heap_alloc w x b (heap_lt h)]; exact h
theorem heap_setCell_keep {w : World} {b : Nat} {o : Obj} (h : w.heap[b]? = some o) (p : Addr) (v : Value) (hp : b ≠ p.block) : (w.setCell p v).heap[b]? = some o := by
  rw [Below.heap_setCell w p v b hp]; exact h
theorem heap_setCell_at {w : World} {b : Nat} {c : Array Value} {e : TypeId} {f : Nat × Nat} (h : w.heap[b]? = some (.cells c e f)) (i : Nat) (v : Value) :
    (w.setCell ⟨b, i, none⟩ v).heap[b]? = some (.cells (c.setIfInBounds i v) e f) := by
  have hlt := heap_lt h
  have h' : w.heap[b] = .cells c e f := by simpa [Array.getElem?_eq_getElem hlt] using h
  show (w.heap.modify b _)[b]? = _
  rw [Array.getElem?_eq_getElem (by simpa using hlt), Array.getElem_modify_self, h']
  rfl
theorem cell_at {w : World} {b : Nat} {c : Array Value} {e : TypeId} {f : Nat × Nat} (h : w.heap[b]? = some (.cells c e f)) (i : Nat) : w.cell? ⟨b, i, none⟩ = c[i]? := by simp [World.cell?, h]
theorem free_at {w : World} {b : Nat} {c : Array Value} {e : TypeId} (h : w.heap[b]? = some (.cells c e (0, 0))) (i : Nat) : w.frozen? ⟨b, i, none⟩ = false := by simp [World.frozen?, h]

/-! ### What a value reads as -/

inductive T where
  | atom (v : Value)
  | sl (n : Nat) (cs : List T)

mutual
/-- In the world w the value reads as t; its memory lies in blocks of A. -/
def Rep (w : World) (A : Nat → Prop) : T → Value → Prop
  | .atom v, u => u = v
  | .sl n cs, u => (n = 0 ∧ cs = [] ∧ ∃ a cap, u = .slice a 0 cap) ∨
      (∃ g off cap, u = .slice (some ⟨g, off, none⟩) n cap ∧ n ≤ cap ∧ n ≤ 140737488355328 ∧ A g ∧ g < w.heap.size ∧ RepAt w A g off cs)
def RepAt (w : World) (A : Nat → Prop) (g : Nat) : Nat → List T → Prop
  | _, [] => True
  | off, t :: ts => (∃ v, w.cell? ⟨g, off, none⟩ = some v ∧ Rep w A t v) ∧ RepAt w A g (off + 1) ts
end

mutual
theorem Rep.imp {w w' : World} {A A' : Nat → Prop} (hA : ∀ g, g < w.heap.size → A g → A' g ∧ w'.heap[g]? = w.heap[g]? ∧ g < w'.heap.size) : ∀ (t : T) (v : Value), Rep w A t v → Rep w' A' t v
  | .atom _, _, h => h
  | .sl n cs, u, h => by
    rcases h with h | ⟨g, off, cap, hu, hc, hn, ha, hg, hr⟩
    · exact .inl h
    · obtain ⟨h1, h2, h3⟩ := hA g hg ha
      exact .inr ⟨g, off, cap, hu, hc, hn, h1, h3, RepAt.imp hA g ha hg cs off hr⟩
theorem RepAt.imp {w w' : World} {A A' : Nat → Prop} (hA : ∀ g, g < w.heap.size → A g → A' g ∧ w'.heap[g]? = w.heap[g]? ∧ g < w'.heap.size) (g : Nat) (ha : A g) (hg : g < w.heap.size) : ∀ (ts : List T) (off : Nat), RepAt w A g off ts → RepAt w' A' g off ts
  | [], _, _ => trivial
  | t :: ts, off, h => by
    obtain ⟨⟨v, hv, hr⟩, h2⟩ := h
    refine ⟨⟨v, ?_, Rep.imp hA t v hr⟩, RepAt.imp hA g ha hg ts (off + 1) h2⟩
    rw [World.cell?_of_block (w := w) (hA g hg ha).2.1]; exact hv
end

theorem Rep.kept {S A : Nat → Prop} {w w' : World} (h : Kept S w w') (hS : ∀ g, g < w.heap.size → A g → ¬ S g) {t : T} {v : Value} (hr : Rep w A t v) : Rep w' A t v :=
  Rep.imp (fun g hg ha => ⟨ha, h.block g hg (hS g hg ha), Nat.lt_of_lt_of_le hg h.size⟩) t v hr

theorem Rep.mono {A A' : Nat → Prop} {w : World} (hS : ∀ g, g < w.heap.size → A g → A' g) {t : T} {v : Value} (hr : Rep w A t v) : Rep w A' t v :=
  Rep.imp (fun g hg ha => ⟨hS g hg ha, rfl, hg⟩) t v hr

theorem Rep.nil (w : World) (A : Nat → Prop) : Rep w A (.sl 0 []) (.slice none 0 0) := .inl ⟨rfl, rfl, _, _, rfl⟩

/-- A row of values reads as a row of data. -/
def RepL (w : World) (A : Nat → Prop) : List T → List Value → Prop
  | [], [] => True
  | t :: ts, v :: vs => Rep w A t v ∧ RepL w A ts vs
  | _, _ => False

theorem RepL.length {w : World} {A : Nat → Prop} : ∀ {ts : List T} {vs : List Value}, RepL w A ts vs → ts.length = vs.length
  | [], [], _ => rfl
  | _ :: _, _ :: _, h => by simp [RepL.length h.2]

theorem RepL.imp {w w' : World} {A A' : Nat → Prop} (hA : ∀ g, g < w.heap.size → A g → A' g ∧ w'.heap[g]? = w.heap[g]? ∧ g < w'.heap.size) : ∀ {ts : List T} {vs : List Value}, RepL w A ts vs → RepL w' A' ts vs
  | [], [], _ => trivial
  | _ :: _, _ :: _, h => ⟨Rep.imp hA _ _ h.1, RepL.imp hA h.2⟩

theorem RepL.kept {S A : Nat → Prop} {w w' : World} (h : Kept S w w') (hS : ∀ g, g < w.heap.size → A g → ¬ S g) {ts : List T} {vs : List Value} (hr : RepL w A ts vs) : RepL w' A ts vs :=
  RepL.imp (fun g hg ha => ⟨ha, h.block g hg (hS g hg ha), Nat.lt_of_lt_of_le hg h.size⟩) hr
theorem RepL.mono {A A' : Nat → Prop} {w : World} (hS : ∀ g, g < w.heap.size → A g → A' g) {ts : List T} {vs : List Value} (hr : RepL w A ts vs) : RepL w A' ts vs :=
  RepL.imp (fun g hg ha => ⟨hS g hg ha, rfl, hg⟩) hr

theorem RepL.append {w : World} {A : Nat → Prop} : ∀ {ts us : List T} {vs ws : List Value}, RepL w A ts vs → RepL w A us ws → RepL w A (ts ++ us) (vs ++ ws)
  | [], _, [], _, _, h => h
  | _ :: _, _, _ :: _, _, h, k => ⟨h.1, RepL.append h.2 k⟩

theorem RepL.at {w : World} {A : Nat → Prop} : ∀ {ts : List T} {vs : List Value}, RepL w A ts vs → ∀ (i : Nat) (t : T), ts[i]? = some t → ∃ v, vs[i]? = some v ∧ Rep w A t v
  | [], [], _, i, t, h => by simp at h
  | _ :: _, v :: _, h, 0, t, ht => by simp at ht; subst ht; exact ⟨v, by simp, h.1⟩
  | _ :: _, _ :: _, h, i + 1, t, ht => by simp at ht; simpa using RepL.at h.2 i t ht

theorem RepL.set {w : World} {A : Nat → Prop} {t : T} {u : Value} : ∀ {ts : List T} {vs : List Value}, RepL w A ts vs → ∀ (i : Nat), Rep w A t u → RepL w A (ts.set i t) (vs.set i u)
  | [], [], _, _, _ => trivial
  | _ :: _, _ :: _, h, 0, hr => ⟨hr, h.2⟩
  | _ :: _, _ :: _, h, i + 1, hr => ⟨h.1, RepL.set h.2 i hr⟩

theorem RepL.repAt {w : World} {A : Nat → Prop} {g : Nat} : ∀ {ts : List T} {vs : List Value} (off : Nat), RepL w A ts vs → (∀ (j : Nat) (u : Value), vs[j]? = some u → w.cell? ⟨g, off + j, none⟩ = some u) → RepAt w A g off ts
  | [], [], _, _, _ => trivial
  | _ :: _, v :: vs, off, h, hc => ⟨⟨v, by simpa using hc 0 v (by simp), h.1⟩, RepL.repAt (off + 1) h.2 (fun j u hj => by have := hc (j + 1) u (by simpa using hj); rw [show off + 1 + j = off + (j + 1) from by omega]; exact this)⟩

theorem RepAt.cell {w : World} {A : Nat → Prop} {g : Nat} : ∀ {ts : List T} {off : Nat}, RepAt w A g off ts → ∀ (j : Nat) (t : T), ts[j]? = some t → ∃ v, w.cell? ⟨g, off + j, none⟩ = some v ∧ Rep w A t v
  | [], _, _, j, t, h => by simp at h
  | _ :: _, off, h, 0, t, ht => by simp at ht; subst ht; exact h.1
  | _ :: _, off, h, j + 1, t, ht => by
    simp at ht
    have := RepAt.cell h.2 j t ht
    rw [show off + 1 + j = off + (j + 1) from by omega] at this
    exact this

theorem RepAt.values {w : World} {A : Nat → Prop} {g : Nat} : ∀ {ts : List T} {off : Nat}, RepAt w A g off ts → ∃ vs, RepL w A ts vs ∧ ∀ (j : Nat) (u : Value), vs[j]? = some u → w.cell? ⟨g, off + j, none⟩ = some u
  | [], _, _ => ⟨[], trivial, by simp⟩
  | _ :: _, off, h => by
    obtain ⟨⟨v, hv, hr⟩, h2⟩ := h
    obtain ⟨vs, h3, h4⟩ := RepAt.values h2
    refine ⟨v :: vs, ⟨hr, h3⟩, fun j u hj => ?_⟩
    cases j with
    | zero => simp at hj; subst hj; exact hv
    | succ j =>
      simp at hj
      have := h4 j u hj
      rw [show off + 1 + j = off + (j + 1) from by omega] at this
      exact this

/-! ### A slice that the call itself builds -/

/-- The value is a slice of n elements (size cells each), it owns its block (from B on), its elements read as ts, their memory lies from B on, not in that block. -/
def Owns (w : World) (B : Nat) (e : TypeId) (size : Nat) (v : Value) (n : Nat) (ts : List T) : Prop :=
  ∃ xs, w.ownsRow B e size v n xs ∧ RepL w (fun g => B ≤ g ∧ v.ownBlock ≠ some g) ts xs

namespace Owns
variable {w w' : World} {B : Nat} {e : TypeId} {size : Nat} {v : Value} {n : Nat} {ts : List T}

theorem nil (w : World) (B : Nat) (e : TypeId) (size : Nat) : Owns w B e size (.slice none 0 0) 0 [] := ⟨[], World.ownsRow_nil w B e size, trivial⟩

theorem len (h : Owns w B e size v n ts) : ts.length = n * size := by
  obtain ⟨xs, h1, h2⟩ := h
  rw [h2.length, h1.1]

theorem row_of {S : Nat → Prop} (h : Kept S w w') {xs : List Value} (hr : w.ownsRow B e size v n xs) (hS : ∀ g, v.ownBlock = some g → ¬ S g) : w'.ownsRow B e size v n xs := by
  refine ⟨hr.1, ?_⟩
  rcases hr.2 with h0 | ⟨g, cap, cur, hv, hb, hg, rest⟩
  · exact .inl h0
  · refine .inr ⟨g, cap, cur, hv, hb, ?_, rest⟩
    rw [h.block g (heap_lt hg) (hS g (by rw [hv]; rfl))]; exact hg

theorem kept {S : Nat → Prop} (h : Owns w B e size v n ts) (k : Kept S w w') (hS : ∀ g, g < w.heap.size → B ≤ g → ¬ S g) : Owns w' B e size v n ts := by
  obtain ⟨xs, h1, h2⟩ := h
  exact ⟨xs, row_of k h1 (fun g hg => hS g (h1.lt g hg).2 (h1.lt g hg).1), h2.kept k (fun g hg ha => hS g hg ha.1)⟩

/-- What is built reads as a whole. -/
theorem rep (h : Owns w B e size v n ts) (hn : n ≤ 140737488355328) : Rep w (fun g => B ≤ g) (.sl n ts) v := by
  obtain ⟨xs, h1, h2⟩ := h
  rcases h1.2 with ⟨hv, h0⟩ | ⟨g, cap, cur, hv, hb, hg, hnc, hcm, hcs, htake⟩
  · subst h0
    have h3 := h2.length
    rw [h1.1] at h3
    simp at h3
    subst h3
    exact .inl ⟨rfl, rfl, none, 0, hv⟩
  · refine .inr ⟨g, 0, cap, hv, hnc, hn, hb, heap_lt hg, (h2.mono (fun _ _ ha => ha.1)).repAt 0 (fun j u hj => ?_)⟩
    rw [Nat.zero_add, cell_at hg]
    rw [← htake, List.getElem?_take] at hj
    split at hj
    · simpa using hj
    · cases hj

theorem block (h : Owns w B e size v n ts) : ∀ k, v.ownBlock = some k → B ≤ k ∧ k < w.heap.size := by
  obtain ⟨xs, h1, _⟩ := h
  exact h1.lt
end Owns

/-- Behind append. -/
theorem Owns.grow {w w' : World} {B : Nat} {e : TypeId} {size : Nat} {v : Value} {n' g cap : Nat} {ts us : List T} {xs news : List Value} 
    (h2 : RepL w (fun g => B ≤ g ∧ v.ownBlock ≠ some g) ts xs) (h3 : RepL w (fun g => B ≤ g ∧ v.ownBlock ≠ some g) us news)
    (ho : w'.ownsRow B e size (.slice (some ⟨g, 0, none⟩) n' cap) n' (xs ++ news)) (hg : w.grownBy w' v.ownBlock) (hv : v.ownBlock = some g ∨ g = w.heap.size) : Owns w' B e size (.slice (some ⟨g, 0, none⟩) n' cap) n' (ts ++ us) := by
  refine ⟨xs ++ news, ho, RepL.append (RepL.imp ?_ h2) (RepL.imp ?_ h3)⟩
  all_goals
    intro k hk ⟨ha, hb⟩
    refine ⟨⟨ha, ?_⟩, hg.block k hk (fun e => hb e.symm), Nat.lt_of_lt_of_le hk hg.size⟩
    intro he
    simp only [Value.ownBlock, Option.some.injEq] at he
    rcases hv with h | h
    · exact hb (h.trans (congrArg some he))
    · omega

#print axioms Owns.grow
end Go.Proofs.YtfkdeknblbmibaaGreatDoor
