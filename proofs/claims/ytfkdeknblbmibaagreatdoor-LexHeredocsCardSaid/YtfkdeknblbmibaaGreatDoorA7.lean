/-
  lex: the closure within$1 is walked: the octets under way are put to the parts, as 'flushS' says.
-/
import Derived.Test.YtfkdeknblbmibaaGreatDoorA6
import Derived.Deep.RegionLaw
namespace Go.Proofs.YtfkdeknblbmibaaGreatDoor
open Go.RowKit

/-- Octets that the call itself gathers. -/
def OwnsB (w : World) (B : Nat) (v : Value) (l : List UInt8) : Prop := w.ownsRow B 5 1 v l.length (l.map fun c => .int .u8 c.toNat)

theorem info_byte : (Tryz.prog.info? 5).map (fun i => (i.zero, i.size, i.bytes)) = some (some (.int .u8 0), 1, 1) := by kernel_rfl

theorem OwnsB.nil (w : World) (B : Nat) : OwnsB w B (.slice none 0 0) [] := World.ownsRow_nil w B 5 1
theorem OwnsB.kept {w w' : World} {B : Nat} {v : Value} {l : List UInt8} {S : Nat → Prop} (h : OwnsB w B v l) (k : Kept S w w') (hS : ∀ g, v.ownBlock = some g → ¬ S g) : OwnsB w' B v l := Owns.row_of k h hS
theorem OwnsB.len {w : World} {B : Nat} {v : Value} {l : List UInt8} (h : OwnsB w B v l) : ∃ a cap, v = .slice a l.length cap := by
  rcases h.2 with ⟨hv, h0⟩ | ⟨g, cap, cur, hv, _⟩
  · exact ⟨none, 0, by rw [hv, h0]⟩
  · exact ⟨some ⟨g, 0, none⟩, cap, hv⟩
theorem OwnsB.shape {w : World} {B : Nat} {v : Value} {l : List UInt8} (h : OwnsB w B v l) : ∃ a n cap, v = .slice a n cap := by
  obtain ⟨a, cap, h⟩ := h.len
  exact ⟨a, _, cap, h⟩
/-- 'string(b)'. -/
theorem OwnsB.text {w : World} {B : Nat} {v : Value} {l : List UInt8} (h : OwnsB w B v l) (hl : l ≠ []) : (convert 73 9 v).run Tryz.prog w = .ok (.string ⟨l.toArray⟩) w := by
  obtain ⟨h1, h2⟩ := h
  rcases h2 with ⟨hv, h0⟩ | ⟨g, cap, cur, hv, hb, hg, hn, hc, hs, ht⟩
  · exact absurd (List.eq_nil_of_length_eq_zero h0) hl
  · rw [hv]
    refine run_convert_bytes_back w 73 9 5 ⟨g, 0, none⟩ cap l Tryz.underlying73 Tryz.underlying5 Tryz.underlying9 (fun j hj => ?_)
    have e : (⟨g, 0, none⟩ : Addr).add j = ⟨g, j, none⟩ := by unfold Addr.add; split <;> simp_all
    rw [e, cell_at hg]
    have h3 : (cur.toList.take (l.length * 1))[j]? = some (.int .u8 (l[j].toNat : Int)) := by
      rw [ht, List.getElem?_map, List.getElem?_eq_getElem hj]
      rfl
    rw [List.getElem?_take] at h3
    split at h3
    · simpa using h3
    · cases h3

/-- The last cells of a row. -/
theorem row_last {w : World} {B n m g cap size : Nat} {e : TypeId} {xs news : List Value} (h : w.ownsRow B e size (.slice (some ⟨g, 0, none⟩) m cap) m (xs ++ news)) {i : Nat} {u : Value} (hx : xs.length = n) (hi : news[i]? = some u) :
    w.cell? ⟨g, n + i, none⟩ = some u ∧ ∀ j, w.frozen? ⟨g, j, none⟩ = false := by
  rcases h.2 with ⟨hv, _⟩ | ⟨g', cap', cur, hv, hb, hg, hn, hc, hs, ht⟩
  · cases hv
  · cases hv
    refine ⟨?_, fun j => free_at hg j⟩
    rw [cell_at hg]
    have h3 : (cur.toList.take (m * size))[n + i]? = some u := by
      rw [ht, List.getElem?_append_right (by omega), hx, show n + i - n = i from by omega]
      exact hi
    rw [List.getElem?_take] at h3
    split at h3
    · simpa using h3
    · cases h3

theorem row_zero {w : World} {B n m g cap : Nat} {e : TypeId} {xs : List Value} (h : w.ownsRow B e 10 (.slice (some ⟨g, 0, none⟩) m cap) m (xs ++ partZ.toList)) (hx : xs.length = n) : (∀ j, w.frozen? ⟨g, j, none⟩ = false) ∧ w.cell? ⟨g, n, none⟩ = some (.int .i64 0) ∧ w.cell? ⟨g, n + 1, none⟩ = some (.string ⟨#[]⟩) ∧ w.cell? ⟨g, n + 2, none⟩ = some (.string ⟨#[]⟩) ∧ w.cell? ⟨g, n + 3, none⟩ = some (.string ⟨#[]⟩) ∧ w.cell? ⟨g, n + 4, none⟩ = some (.bool false) ∧ w.cell? ⟨g, n + 5, none⟩ = some (.slice none 0 0) ∧ w.cell? ⟨g, n + 6, none⟩ = some (.slice none 0 0) ∧ w.cell? ⟨g, n + 7, none⟩ = some (.slice none 0 0) ∧ w.cell? ⟨g, n + 8, none⟩ = some (.slice none 0 0) ∧ w.cell? ⟨g, n + 9, none⟩ = some (.int .i64 0) := by
  refine ⟨(row_last h hx (i := 0) (u := .int .i64 0) rfl).2, ?_, ?_, ?_, ?_, ?_, ?_, ?_, ?_, ?_, ?_⟩
  · exact (row_last h hx (i := 0) rfl).1
  · exact (row_last h hx (i := 1) rfl).1
  · exact (row_last h hx (i := 2) rfl).1
  · exact (row_last h hx (i := 3) rfl).1
  · exact (row_last h hx (i := 4) rfl).1
  · exact (row_last h hx (i := 5) rfl).1
  · exact (row_last h hx (i := 6) rfl).1
  · exact (row_last h hx (i := 7) rfl).1
  · exact (row_last h hx (i := 8) rfl).1
  · exact (row_last h hx (i := 9) rfl).1


theorem set_keep {w : World} {B g i : Nat} {t : T} {u v : Value} (h : Rep w (fun k => B ≤ k ∧ k ≠ g) t v) : Rep (w.setCell ⟨g, i, none⟩ u) (fun k => B ≤ k ∧ k ≠ g) t v :=
  Rep.imp (fun k hk ha => ⟨ha, Below.heap_setCell _ _ _ _ (fun e => ha.2 e), by simpa [World.setCell] using hk⟩) t v h

/-- A part stored over one that is owned. -/
theorem ten_own {w : World} {B g cap : Nat} {out : List Pt} {p0 p : Pt} {v5 v6 v7 v8 : Value} (h : OwnsP w B (.slice (some ⟨g, 0, none⟩) (out.length + 1) cap) (out ++ [p0]))
    (h5 : Rep w (fun k => B ≤ k ∧ k ≠ g) (slT p.word) v5) (h6 : Rep w (fun k => B ≤ k ∧ k ≠ g) (slT p.more) v6) (h7 : Rep w (fun k => B ≤ k ∧ k ≠ g) (slT p.sums) v7) (h8 : Rep w (fun k => B ≤ k ∧ k ≠ g) (slT p.list) v8) :
    OwnsP ((((((((((w.setCell ⟨g, out.length * 10, none⟩ (.int .i64 p.kind)).setCell ⟨g, out.length * 10 + 1, none⟩ (.string p.text)).setCell ⟨g, out.length * 10 + 2, none⟩ (.string p.name)).setCell ⟨g, out.length * 10 + 3, none⟩ (.string p.op)).setCell ⟨g, out.length * 10 + 4, none⟩ (.bool p.quoted)).setCell ⟨g, out.length * 10 + 5, none⟩ (v5)).setCell ⟨g, out.length * 10 + 6, none⟩ (v6)).setCell ⟨g, out.length * 10 + 7, none⟩ (v7)).setCell ⟨g, out.length * 10 + 8, none⟩ (v8)).setCell ⟨g, out.length * 10 + 9, none⟩ (.int .i64 p.place)) B (.slice (some ⟨g, 0, none⟩) (out.length + 1) cap) (out ++ [p]) := by
  unfold OwnsP at h ⊢
  have e1 : (out ++ [p0]).length = out.length + 1 := by simp
  have e2 : (out ++ [p]).length = out.length + 1 := by simp
  rw [e1] at h
  rw [e2]
  have s0 := Owns.set (i := out.length * 10) (t := .atom (.int .i64 p.kind)) (u := .int .i64 p.kind) h rfl
  have s1 := Owns.set (i := out.length * 10 + 1) (t := .atom (.string p.text)) (u := .string p.text) s0 rfl
  have s2 := Owns.set (i := out.length * 10 + 2) (t := .atom (.string p.name)) (u := .string p.name) s1 rfl
  have s3 := Owns.set (i := out.length * 10 + 3) (t := .atom (.string p.op)) (u := .string p.op) s2 rfl
  have s4 := Owns.set (i := out.length * 10 + 4) (t := .atom (.bool p.quoted)) (u := .bool p.quoted) s3 rfl
  have s5 := Owns.set (i := out.length * 10 + 5) (t := slT p.word) (u := v5) s4 (set_keep (set_keep (set_keep (set_keep (set_keep h5)))))
  have s6 := Owns.set (i := out.length * 10 + 6) (t := slT p.more) (u := v6) s5 (set_keep (set_keep (set_keep (set_keep (set_keep (set_keep h6))))))
  have s7 := Owns.set (i := out.length * 10 + 7) (t := slT p.sums) (u := v7) s6 (set_keep (set_keep (set_keep (set_keep (set_keep (set_keep (set_keep h7)))))))
  have s8 := Owns.set (i := out.length * 10 + 8) (t := slT p.list) (u := v8) s7 (set_keep (set_keep (set_keep (set_keep (set_keep (set_keep (set_keep (set_keep h8))))))))
  have s9 := Owns.set (i := out.length * 10 + 9) (t := .atom (.int .i64 p.place)) (u := .int .i64 p.place) s8 rfl
  have e3 : cellsOf (out ++ [p]) = ((((((((((cellsOf (out ++ [p0])).set (out.length * 10) (.atom (.int .i64 p.kind))).set (out.length * 10 + 1) (.atom (.string p.text))).set (out.length * 10 + 2) (.atom (.string p.name))).set (out.length * 10 + 3) (.atom (.string p.op))).set (out.length * 10 + 4) (.atom (.bool p.quoted))).set (out.length * 10 + 5) (slT p.word)).set (out.length * 10 + 6) (slT p.more)).set (out.length * 10 + 7) (slT p.sums)).set (out.length * 10 + 8) (slT p.list)).set (out.length * 10 + 9) (.atom (.int .i64 p.place)) := by
    rw [cellsOf_append, cellsOf_append]
    have hl := cellsOf_length out
    rw [List.set_append_right _ _ (by omega), List.set_append_right _ _ (by omega), List.set_append_right _ _ (by omega), List.set_append_right _ _ (by omega), List.set_append_right _ _ (by omega), List.set_append_right _ _ (by omega), List.set_append_right _ _ (by omega), List.set_append_right _ _ (by omega), List.set_append_right _ _ (by omega), List.set_append_right _ _ (by omega), hl]
    congr 1
    simp only [Nat.sub_self, Nat.add_sub_cancel_left]
    rfl
  rw [e3]
  exact s9

/-- What an append of one part, stored back into a variable, leaves. -/
def Mid (B ob : Nat) (v : Value) (out : List Pt) (w w' : World) : Prop :=
  ∃ v', w'.heap[ob]? = some (.cells #[v'] 23 (0, 0)) ∧ OwnsP w' B v' out ∧ Kept (fun k => k = ob ∨ v.ownBlock = some k) w w' ∧ (∀ k, v'.ownBlock = some k → v.ownBlock = some k ∨ w.heap.size ≤ k)

theorem mid_own {w w0 : World} {g n cap : Nat} {v : Value} (K0 : Kept (fun _ => False) w w0) (hv' : v.ownBlock = some g ∨ g = w0.heap.size) : ∀ k, (Value.slice (some ⟨g, 0, none⟩) n cap).ownBlock = some k → v.ownBlock = some k ∨ w.heap.size ≤ k := by
  intro k hk
  simp only [Value.ownBlock, Option.some.injEq] at hk
  subst hk
  exact hv'.imp id (fun h => by have := K0.size; omega)

theorem mid_base {w w0 w1 : World} {B g cap ob : Nat} {out : List Pt} {p : Pt} {v v0 v5 v6 v7 v8 : Value} {xs : List Value} (K0 : Kept (fun _ => False) w w0)
    (R2 : RepL w (fun k => B ≤ k ∧ v.ownBlock ≠ some k) (cellsOf out) xs) (ho' : w1.ownsRow B 32 10 (.slice (some ⟨g, 0, none⟩) (out.length + 1) cap) (out.length + 1) (xs ++ partZ.toList))
    (hg' : w0.grownBy w1 v.ownBlock) (hv' : v.ownBlock = some g ∨ g = w0.heap.size) (h1 : w.heap[ob]? = some (.cells #[v0] 23 (0, 0))) (_hob : ob < B) (hnb : v.ownBlock ≠ some ob)
    (h5 : Rep w (fun k => B ≤ k ∧ v.ownBlock ≠ some k) (slT p.word) v5) (h6 : Rep w (fun k => B ≤ k ∧ v.ownBlock ≠ some k) (slT p.more) v6) (h7 : Rep w (fun k => B ≤ k ∧ v.ownBlock ≠ some k) (slT p.sums) v7) (h8 : Rep w (fun k => B ≤ k ∧ v.ownBlock ≠ some k) (slT p.list) v8) :
    OwnsP w1 B (.slice (some ⟨g, 0, none⟩) (out.length + 1) cap) (out ++ [{ kind := 0, text := ⟨#[]⟩ }]) ∧ Kept (fun k => v.ownBlock = some k) w w1 ∧ B ≤ g ∧ w1.heap[ob]? = some (.cells #[v0] 23 (0, 0)) ∧
    Rep w1 (fun k => B ≤ k ∧ k ≠ g) (slT p.word) v5 ∧ Rep w1 (fun k => B ≤ k ∧ k ≠ g) (slT p.more) v6 ∧ Rep w1 (fun k => B ≤ k ∧ k ≠ g) (slT p.sums) v7 ∧ Rep w1 (fun k => B ≤ k ∧ k ≠ g) (slT p.list) v8 := by
  have K1 : Kept (fun k => v.ownBlock = some k) w w1 := (K0.mono (fun _ _ f => f.elim)).grown hg' (fun k hk _ => hk)
  have tr : ∀ {t : T} {u : Value}, Rep w (fun k => B ≤ k ∧ v.ownBlock ≠ some k) t u → Rep w1 (fun k => B ≤ k ∧ k ≠ g) t u := by
    intro t u h
    refine Rep.imp (fun k hk ha => ⟨⟨ha.1, ?_⟩, K1.block k hk ha.2, Nat.lt_of_lt_of_le hk K1.size⟩) t u h
    rintro rfl
    rcases hv' with h | h
    · exact ha.2 h
    · have := K0.size
      omega
  refine ⟨?_, K1, (ho'.lt g rfl).1, ?_, tr h5, tr h6, tr h7, tr h8⟩
  · unfold OwnsP
    rw [List.length_append, cellsOf_append]
    exact Owns.grow (v := v) (R2.kept K0 (fun _ _ _ f => f)) (RepL.atoms (p := { kind := 0, text := ⟨#[]⟩ }) (Rep.nil _ _) (Rep.nil _ _) (Rep.nil _ _) (Rep.nil _ _)) ho' hg' hv'
  · rw [K1.block ob (heap_lt h1) hnb]
    exact h1

theorem mid_A {w w0 w1 : World} {B g cap ob : Nat} {out : List Pt} {p : Pt} {v v0 v5 v6 v7 v8 : Value} {xs : List Value} (K0 : Kept (fun _ => False) w w0)
    (R2 : RepL w (fun k => B ≤ k ∧ v.ownBlock ≠ some k) (cellsOf out) xs) (ho' : w1.ownsRow B 32 10 (.slice (some ⟨g, 0, none⟩) (out.length + 1) cap) (out.length + 1) (xs ++ partZ.toList))
    (hg' : w0.grownBy w1 v.ownBlock) (hv' : v.ownBlock = some g ∨ g = w0.heap.size) (h1 : w.heap[ob]? = some (.cells #[v0] 23 (0, 0))) (hob : ob < B) (hnb : v.ownBlock ≠ some ob)
    (h5 : Rep w (fun k => B ≤ k ∧ v.ownBlock ≠ some k) (slT p.word) v5) (h6 : Rep w (fun k => B ≤ k ∧ v.ownBlock ≠ some k) (slT p.more) v6) (h7 : Rep w (fun k => B ≤ k ∧ v.ownBlock ≠ some k) (slT p.sums) v7) (h8 : Rep w (fun k => B ≤ k ∧ v.ownBlock ≠ some k) (slT p.list) v8) :
    Mid B ob v (out ++ [p]) w (((((((((((w1.setCell ⟨g, out.length * 10, none⟩ (.int .i64 p.kind)).setCell ⟨g, out.length * 10 + 1, none⟩ (.string p.text)).setCell ⟨g, out.length * 10 + 2, none⟩ (.string p.name)).setCell ⟨g, out.length * 10 + 3, none⟩ (.string p.op)).setCell ⟨g, out.length * 10 + 4, none⟩ (.bool p.quoted)).setCell ⟨g, out.length * 10 + 5, none⟩ (v5)).setCell ⟨g, out.length * 10 + 6, none⟩ (v6)).setCell ⟨g, out.length * 10 + 7, none⟩ (v7)).setCell ⟨g, out.length * 10 + 8, none⟩ (v8)).setCell ⟨g, out.length * 10 + 9, none⟩ (.int .i64 p.place)).setCell ⟨ob, 0, none⟩ (.slice (some ⟨g, 0, none⟩) (out.length + 1) cap)) := by
  obtain ⟨m1, m2, m3, m4, m5, m6, m7, m8⟩ := mid_base K0 R2 ho' hg' hv' h1 hob hnb h5 h6 h7 h8
  have hS : g < w.heap.size → (fun k => k = ob ∨ v.ownBlock = some k) g := fun hl => .inr (hv'.resolve_right (by have := K0.size; omega))
  have own := ten_own m1 m5 m6 m7 m8
  have hne : ob ≠ g := by omega
  have k0 := m2.mono (S' := fun k => k = ob ∨ v.ownBlock = some k) (fun _ _ h => .inr h)
  have k1 := kept_at k0 (out.length * 10) (.int .i64 p.kind) hS
  have k2 := kept_at k1 (out.length * 10 + 1) (.string p.text) hS
  have k3 := kept_at k2 (out.length * 10 + 2) (.string p.name) hS
  have k4 := kept_at k3 (out.length * 10 + 3) (.string p.op) hS
  have k5 := kept_at k4 (out.length * 10 + 4) (.bool p.quoted) hS
  have k6 := kept_at k5 (out.length * 10 + 5) (v5) hS
  have k7 := kept_at k6 (out.length * 10 + 6) (v6) hS
  have k8 := kept_at k7 (out.length * 10 + 7) (v7) hS
  have k9 := kept_at k8 (out.length * 10 + 8) (v8) hS
  have k10 := kept_at k9 (out.length * 10 + 9) (.int .i64 p.place) hS
  have b1 := heap_setCell_keep m4 ⟨g, out.length * 10, none⟩ (.int .i64 p.kind) hne
  have b2 := heap_setCell_keep b1 ⟨g, out.length * 10 + 1, none⟩ (.string p.text) hne
  have b3 := heap_setCell_keep b2 ⟨g, out.length * 10 + 2, none⟩ (.string p.name) hne
  have b4 := heap_setCell_keep b3 ⟨g, out.length * 10 + 3, none⟩ (.string p.op) hne
  have b5 := heap_setCell_keep b4 ⟨g, out.length * 10 + 4, none⟩ (.bool p.quoted) hne
  have b6 := heap_setCell_keep b5 ⟨g, out.length * 10 + 5, none⟩ (v5) hne
  have b7 := heap_setCell_keep b6 ⟨g, out.length * 10 + 6, none⟩ (v6) hne
  have b8 := heap_setCell_keep b7 ⟨g, out.length * 10 + 7, none⟩ (v7) hne
  have b9 := heap_setCell_keep b8 ⟨g, out.length * 10 + 8, none⟩ (v8) hne
  have b10 := heap_setCell_keep b9 ⟨g, out.length * 10 + 9, none⟩ (.int .i64 p.place) hne
  exact ⟨_, one_setCell b10, own.kept (S := fun k => k = ob) (kept_at (Kept.refl _ _) 0 _ (fun _ => rfl)) (fun k _ hb e => by omega), kept_at k10 0 _ (fun _ => .inl rfl), mid_own K0 hv'⟩

theorem mid_B {w w0 w1 : World} {B g cap ob : Nat} {out : List Pt} {p : Pt} {v v0 v5 v6 v7 v8 : Value} {xs : List Value} (K0 : Kept (fun _ => False) w w0)
    (R2 : RepL w (fun k => B ≤ k ∧ v.ownBlock ≠ some k) (cellsOf out) xs) (ho' : w1.ownsRow B 32 10 (.slice (some ⟨g, 0, none⟩) (out.length + 1) cap) (out.length + 1) (xs ++ partZ.toList))
    (hg' : w0.grownBy w1 v.ownBlock) (hv' : v.ownBlock = some g ∨ g = w0.heap.size) (h1 : w.heap[ob]? = some (.cells #[v0] 23 (0, 0))) (hob : ob < B) (hnb : v.ownBlock ≠ some ob)
    (h5 : Rep w (fun k => B ≤ k ∧ v.ownBlock ≠ some k) (slT p.word) v5) (h6 : Rep w (fun k => B ≤ k ∧ v.ownBlock ≠ some k) (slT p.more) v6) (h7 : Rep w (fun k => B ≤ k ∧ v.ownBlock ≠ some k) (slT p.sums) v7) (h8 : Rep w (fun k => B ≤ k ∧ v.ownBlock ≠ some k) (slT p.list) v8) :
    Mid B ob v (out ++ [p]) w (((((((((((w1.setCell ⟨ob, 0, none⟩ (.slice (some ⟨g, 0, none⟩) (out.length + 1) cap)).setCell ⟨g, out.length * 10, none⟩ (.int .i64 p.kind)).setCell ⟨g, out.length * 10 + 1, none⟩ (.string p.text)).setCell ⟨g, out.length * 10 + 2, none⟩ (.string p.name)).setCell ⟨g, out.length * 10 + 3, none⟩ (.string p.op)).setCell ⟨g, out.length * 10 + 4, none⟩ (.bool p.quoted)).setCell ⟨g, out.length * 10 + 5, none⟩ (v5)).setCell ⟨g, out.length * 10 + 6, none⟩ (v6)).setCell ⟨g, out.length * 10 + 7, none⟩ (v7)).setCell ⟨g, out.length * 10 + 8, none⟩ (v8)).setCell ⟨g, out.length * 10 + 9, none⟩ (.int .i64 p.place)) := by
  obtain ⟨m1, m2, m3, m4, m5, m6, m7, m8⟩ := mid_base K0 R2 ho' hg' hv' h1 hob hnb h5 h6 h7 h8
  have hS : g < w.heap.size → (fun k => k = ob ∨ v.ownBlock = some k) g := fun hl => .inr (hv'.resolve_right (by have := K0.size; omega))
  have hne : ob ≠ g := by omega
  have ko : Kept (fun k => k = ob) w1 (w1.setCell ⟨ob, 0, none⟩ (.slice (some ⟨g, 0, none⟩) (out.length + 1) cap)) := kept_at (Kept.refl _ _) 0 _ (fun _ => rfl)
  have own := ten_own (m1.kept ko (fun k _ hb e => by omega)) (m5.kept ko (fun k _ hb e => by omega)) (m6.kept ko (fun k _ hb e => by omega)) (m7.kept ko (fun k _ hb e => by omega)) (m8.kept ko (fun k _ hb e => by omega))
  have k0 := kept_at (m2.mono (S' := fun k => k = ob ∨ v.ownBlock = some k) (fun _ _ h => .inr h)) 0 (.slice (some ⟨g, 0, none⟩) (out.length + 1) cap) (b := ob) (fun _ => .inl rfl)
  have b0 := one_setCell (u := .slice (some ⟨g, 0, none⟩) (out.length + 1) cap) m4
  have k1 := kept_at k0 (out.length * 10) (.int .i64 p.kind) hS
  have k2 := kept_at k1 (out.length * 10 + 1) (.string p.text) hS
  have k3 := kept_at k2 (out.length * 10 + 2) (.string p.name) hS
  have k4 := kept_at k3 (out.length * 10 + 3) (.string p.op) hS
  have k5 := kept_at k4 (out.length * 10 + 4) (.bool p.quoted) hS
  have k6 := kept_at k5 (out.length * 10 + 5) (v5) hS
  have k7 := kept_at k6 (out.length * 10 + 6) (v6) hS
  have k8 := kept_at k7 (out.length * 10 + 7) (v7) hS
  have k9 := kept_at k8 (out.length * 10 + 8) (v8) hS
  have k10 := kept_at k9 (out.length * 10 + 9) (.int .i64 p.place) hS
  have b1 := heap_setCell_keep b0 ⟨g, out.length * 10, none⟩ (.int .i64 p.kind) hne
  have b2 := heap_setCell_keep b1 ⟨g, out.length * 10 + 1, none⟩ (.string p.text) hne
  have b3 := heap_setCell_keep b2 ⟨g, out.length * 10 + 2, none⟩ (.string p.name) hne
  have b4 := heap_setCell_keep b3 ⟨g, out.length * 10 + 3, none⟩ (.string p.op) hne
  have b5 := heap_setCell_keep b4 ⟨g, out.length * 10 + 4, none⟩ (.bool p.quoted) hne
  have b6 := heap_setCell_keep b5 ⟨g, out.length * 10 + 5, none⟩ (v5) hne
  have b7 := heap_setCell_keep b6 ⟨g, out.length * 10 + 6, none⟩ (v6) hne
  have b8 := heap_setCell_keep b7 ⟨g, out.length * 10 + 7, none⟩ (v7) hne
  have b9 := heap_setCell_keep b8 ⟨g, out.length * 10 + 8, none⟩ (v8) hne
  have b10 := heap_setCell_keep b9 ⟨g, out.length * 10 + 9, none⟩ (.int .i64 p.place) hne
  exact ⟨_, b10, own, k10, mid_own K0 hv'⟩

theorem Mid.drew {B ob : Nat} {v : Value} {out : List Pt} {w w' : World} (h : Mid B ob v out w w') : Mid B ob v out w w'.drew := by
  obtain ⟨v', h1, h2, h3, h4⟩ := h
  exact ⟨v', h1, h2.kept ((Kept.refl (fun _ => False) _).drew) (fun _ _ _ f => f), h3.drew, h4⟩

/-- What flush leaves. -/
def FlushPost (B ob bb : Nat) (v : Value) (out : List Pt) (w : World) (e : Ending) (w' : World) : Prop :=
  e = .returned (.tuple #[]) ∧ ∃ v', w'.heap[ob]? = some (.cells #[v'] 23 (0, 0)) ∧ OwnsP w' B v' out ∧ (∃ vb', w'.heap[bb]? = some (.cells #[vb'] 73 (0, 0)) ∧ OwnsB w' B vb' [] ∧ vb'.ownBlock = none) ∧
    Kept (fun k => k = ob ∨ k = bb ∨ v.ownBlock = some k) w w' ∧ (∀ k, v'.ownBlock = some k → v.ownBlock = some k ∨ w.heap.size ≤ k)

set_option maxRecDepth 100000 in
set_option maxHeartbeats 1000000 in
theorem flush_empty (B ob bb : Nat) (v vb : Value) (out : List Pt) (w : World) (h1 : w.heap[ob]? = some (.cells #[v] 23 (0, 0))) (h2 : w.heap[bb]? = some (.cells #[vb] 73 (0, 0))) (ho : OwnsP w B v out) (hb : OwnsB w B vb []) (hnv : vb.ownBlock = none) :
    Calls Tryz.prog 43 #[.pointer (some ⟨bb, 0, none⟩), .pointer (some ⟨ob, 0, none⟩)] w (FlushPost B ob bb v out w) := by
  obtain ⟨a, cap, rfl⟩ := hb.len
  have c2 := cell_of_one h2
  have H1 := Lib.hid h1
  have H2 := Lib.hid h2
  have HO := Lib.hid ho
  have HB := Lib.hid hb
  have HNV := Lib.hid hnv
  clear h1 h2 ho hb hnv
  go_enter Tryz.func43, Tryz.ntmps43
  go_wp2
  go_end0
  exact ⟨rfl, v, H1.out, HO.out, ⟨_, H2.out, HB.out, HNV.out⟩, Kept.refl _ _, fun k h => .inl h⟩

set_option maxRecDepth 100000 in
set_option maxHeartbeats 2000000 in
theorem flush_some (B ob bb : Nat) (v vb : Value) (out : List Pt) (b : List UInt8) (w : World) (hB : B ≤ w.heap.size) (hm : out.length ≤ 1000000) (h1 : w.heap[ob]? = some (.cells #[v] 23 (0, 0))) (h2 : w.heap[bb]? = some (.cells #[vb] 73 (0, 0)))
    (ho : OwnsP w B v out) (hb : OwnsB w B vb b) (hne : b ≠ []) (hob : ob < B) (hbb : bb < B) (hoo : ob ≠ bb) (hl : b.length ≤ 1000000) :
    Calls Tryz.prog 43 #[.pointer (some ⟨bb, 0, none⟩), .pointer (some ⟨ob, 0, none⟩)] w (FlushPost B ob bb v (out ++ [{ kind := 1, text := ⟨b.toArray⟩, quoted := true }]) w) := by
  have htx1 := (hb.kept ((Kept.refl (fun _ => False) w).drew) (fun _ _ f => f)).text hne
  have htx2 := (hb.kept (((Kept.refl (fun _ => False) w).alloc (.cells #[.int .i64 0, .string ⟨#[]⟩, .string ⟨#[]⟩, .string ⟨#[]⟩, .bool false, .slice none 0 0, .slice none 0 0, .slice none 0 0, .slice none 0 0, .int .i64 0] 32)).drew) (fun _ _ f => f)).text hne
  obtain ⟨a, cap, rfl⟩ := hb.len
  obtain ⟨ao, cao, hv⟩ := ho.len
  subst hv
  have c1 := cell_of_one h1
  have c2 := cell_of_one h2
  have f1 := free_of_one h1
  have f2 := free_of_one h2
  have hbl : 0 < b.length := List.length_pos_iff.2 hne
  have bl1 : (0 : Int) < (b.length : Int) := by omega
  obtain ⟨i0, hi, hz0, hz1, hz2⟩ := info_parts info_part
  obtain ⟨xs, r1, r2⟩ := id ho
  have hxs := r1.1
  have R1 := Lib.hid r1
  have R2 := Lib.hid r2
  have H1 := Lib.hid h1
  have H2 := Lib.hid h2
  have HO := Lib.hid ho
  have HB := Lib.hid hb
  have HXS := Lib.hid hxs
  have hobw : ob < w.heap.size := by omega
  have hbbw : bb < w.heap.size := by omega
  have hnb : (Value.slice ao out.length cao).ownBlock ≠ some ob := fun e => by have := (ho.block ob e).1; omega
  have HNB := Lib.hid hnb
  have b3 : (0 : Int) ≤ (out.length : Int) := by omega
  have b4 : (out.length : Int) < ((out.length + 1 : Nat) : Int) := by omega
  have b5 : (out.length : Int) < (out.length : Int) + 1 := by omega
  clear h1 h2 ho hb r1 r2 hne hxs hnb
  go_enter Tryz.func43, Tryz.ntmps43
  go_upto_region 1 with fail
  go_cut [12] (fun _ wx => Mid B ob (.slice ao out.length cao) (out ++ [{ kind := 1, text := ⟨b.toArray⟩, quoted := true }]) w wx)
  case first =>
   go_region_law (first | (refine step_append_lies _ rfl (.tmp 5) (.tmp 10) 23 rfl B 32 i0 _ 10 168 Tryz.underlying23 hi hz0 hz1 hz2 rfl (by decide) _ out.length xs rfl (by exact R1.out.alloc _) ⟨w.heap.size, 0, none⟩ 1 1 partZ.toList rfl rfl (by exact fun j u h => cell_new rfl j u h) (by simp [partZ, Value.oneCell']) (by decide) (by unfold maxLen; omega) (by omega) (by simp; omega) _ rfl ?_; intro g cap' w1 ho' hg' hv' hlt'; have hBg := (ho'.lt g rfl).1; have hgo : ¬ ob = g := (by omega); have hgo2 : ¬ g = ob := (by omega); have HA := Lib.hid (mid_A (p := { kind := 1, text := ⟨b.toArray⟩, quoted := true }) (w := w) (((Kept.refl _ _).alloc _).drew) R2.out ho' hg' (hv'.imp id (fun h => by exact h)) H1.out hob HNB.out (Rep.nil _ _) (Rep.nil _ _) (Rep.nil _ _) (Rep.nil _ _)); have HBB := Lib.hid (mid_B (p := { kind := 1, text := ⟨b.toArray⟩, quoted := true }) (w := w) (((Kept.refl _ _).alloc _).drew) R2.out ho' hg' (hv'.imp id (fun h => by exact h)) H1.out hob HNB.out (Rep.nil _ _) (Rep.nil _ _) (Rep.nil _ _) (Rep.nil _ _)); obtain ⟨z, z0, z1, z2, z3, z4, z5, z6, z7, z8, z9⟩ := row_zero ho' HXS.out; have q1 : w1.cell? ⟨ob, 0, none⟩ = some (.slice ao out.length cao) := (World.cell?_of_block (hg'.block ob (by simp; omega) (fun e => HNB.out e.symm))).trans (by exact (World.cell?_alloc_past _ _ _ hobw).trans c1); have q2 : w1.frozen? ⟨ob, 0, none⟩ = false := (World.frozen?_of_block (hg'.block ob (by simp; omega) (fun e => HNB.out e.symm))).trans (by exact (World.frozen?_alloc_past _ _ _ hobw).trans f1)))
   all_goals go_wp2_with fail
   all_goals go_meet
   all_goals first | (with_reducible exact HA.out) | (with_reducible exact HBB.out)
  case rest =>
    obtain ⟨v', m1, m2, m3, m5⟩ := hcut
    have M5 := Lib.hid m5
    clear m5
    have m4 : wc.heap[bb]? = some (.cells #[.slice a b.length cap] 73 (0, 0)) := by
      rw [m3.block bb hbbw (by rintro (e | e); exact hoo e.symm; have := (HO.out.block bb e).1; omega)]
      exact H2.out
    have d2 := cell_of_one m4
    have g2 := free_of_one m4
    have M1 := Lib.hid m1
    have M2 := Lib.hid m2
    have M3 := Lib.hid m3
    have M4 := Lib.hid m4
    clear m1 m2 m3 m4
    go_wp2
    go_end0
    refine ⟨rfl, v', heap_setCell_keep M1.out ⟨bb, 0, none⟩ _ hoo, M2.out.kept (S := fun k => k = bb) (kept_at (Kept.refl _ _) 0 _ (fun _ => rfl)) (fun k _ hb e => by omega), ⟨_, one_setCell M4.out, OwnsB.nil _ _, rfl⟩, ?_, M5.out⟩
    refine kept_at (M3.out.mono (fun k _ h => ?_)) 0 _ (fun _ => .inr (.inl rfl))
    rcases h with h | h
    · exact .inl h
    · exact .inr (.inr h)

/-- flush. -/
theorem flush_any (B ob bb : Nat) (v vb : Value) (out : List Pt) (b : List UInt8) (w : World) (hB : B ≤ w.heap.size) (hm : out.length ≤ 1000000) (h1 : w.heap[ob]? = some (.cells #[v] 23 (0, 0))) (h2 : w.heap[bb]? = some (.cells #[vb] 73 (0, 0)))
    (ho : OwnsP w B v out) (hb : OwnsB w B vb b) (hob : ob < B) (hbb : bb < B) (hoo : ob ≠ bb) (hl : b.length ≤ 1000000) (hnv : b = [] → vb.ownBlock = none) :
    Calls Tryz.prog 43 #[.pointer (some ⟨bb, 0, none⟩), .pointer (some ⟨ob, 0, none⟩)] w (FlushPost B ob bb v (flushS out b) w) := by
  by_cases hne : b = []
  · subst hne
    exact flush_empty B ob bb v vb out w h1 h2 ho hb (hnv rfl)
  · rw [flushS, if_neg hne]
    exact flush_some B ob bb v vb out b w hB hm h1 h2 ho hb hne hob hbb hoo hl

#print axioms flush_any
end Go.Proofs.YtfkdeknblbmibaaGreatDoor
