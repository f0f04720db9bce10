/-
  lex: an append of a text's octets to the octets under way.
-/
import Derived.Test.YtfkdeknblbmibaaGreatDoorA8
import Derived.Lib.AppendStr
namespace Go.Proofs.YtfkdeknblbmibaaGreatDoor
open Go.RowKit

/-- append of a text's octets: where the row that is owned lies behind it. -/
theorem append_text_lies {w : World} (ty : TypeId) {B n : Nat} {v : Value} {xs : List Value} (hown : w.ownsRow B 5 1 v n xs) (s : ByteArray) (h63 : n + s.size ≤ maxLen) (hbytes : n + s.size ≤ 140737488355328) (hbase : B ≤ w.heap.size) :
    ∃ v' w', (Builtin.append_ #[73, 9] ty #[v, .string s]).run Tryz.prog w = .ok v' w' ∧ w'.ownsRow B 5 1 v' (n + s.size) (xs ++ Lib.strCells s) ∧ w.grownBy w' v.ownBlock ∧
      (∀ k, v'.ownBlock = some k → v.ownBlock = some k ∨ k = w.heap.size) := by
  obtain ⟨i0, hi, hz0, hz1, hz2⟩ := info_parts info_byte
  obtain ⟨v', w', hr, h1, h2, h3⟩ := Lib.run_append_own_string (P := Tryz.prog) w B 73 9 ty 5 i0 Tryz.underlying73 Tryz.underlying9 hi hz0 hz1 hz2 v n xs hown s h63 hbytes hbase
  refine ⟨v', w', hr, h1, h2, fun k hk => ?_⟩
  have hn63 : ((n + s.size : Nat) : Int) ≤ 9223372036854775807 := by unfold maxLen at h63; omega
  rcases hown.2 with ⟨hv, h0⟩ | ⟨g, cap, cur, hv, hbg, hg, hnc, hcm, hcs, htake⟩
  · subst hv
    by_cases hs : s.size = 0
    · have := h3.2 ⟨rfl, hs⟩
      subst this
      simp [Value.ownBlock] at hk
    · have hr2 := run_append_nil_string (P := Tryz.prog) w 73 9 ty 5 i0 (.int .u8 0) Tryz.underlying73 Tryz.underlying9 hi hz0 s (by omega) (by omega) (by rw [hz2]; omega)
      rw [hr] at hr2
      injection hr2 with e1 e2
      subst e1
      simp [Value.ownBlock] at hk
      exact .inr hk.symm
  · subst hv
    by_cases hroom : n + s.size ≤ cap
    · have hcs' : cur.size = cap := by simpa using hcs
      have hr2 := Lib.run_append_room_string (P := Tryz.prog) w 73 9 ty 5 i0 Tryz.underlying73 Tryz.underlying9 hi hz1 g n cap cur hg s hroom (by omega)
      rw [hr] at hr2
      injection hr2 with e1 e2
      subst e1
      exact .inl hk
    · have hxl : xs.length = n := by simpa using hown.1
      have hr2 := Lib.run_append_grow_string (P := Tryz.prog) w 73 9 ty 5 i0 (.int .u8 0) Tryz.underlying73 Tryz.underlying9 hi hz0 ⟨g, 0, none⟩ n cap xs (by rw [hz1]; simpa using hxl) (hown.cells (g := g) rfl) s (by omega) hn63 (by rw [hz2]; exact growslice_fits (by omega) (by omega))
      rw [hr] at hr2
      injection hr2 with e1 e2
      subst e1
      simp [Value.ownBlock] at hk
      exact .inr hk.symm

/-- The same, one step of a list of operations. -/
theorem wpList_append_text {w : World} {ops : Array Oper} {rest : List Oper} {o : Oper} {a : Act} {Q : Exit → Act → World → Prop} (hgd : o.guard = none) (sl x : Operand)
    (ho : o.op = .call { callee := .builtin .append, args := #[sl, x], argTypes := #[73, 9] })
    (B : Nat) (v : Value) (b : List UInt8) (hs : a.eval sl = v) (hown : OwnsB w B v b) (s : ByteArray) (hx : a.eval x = .string s) (hl : b.length + s.size ≤ 10000000) (hbase : B ≤ w.heap.size)
    (h : ∀ v' w', OwnsB w' B v' (b ++ s.data.toList) → w.grownBy w' v.ownBlock → (∀ k, v'.ownBlock = some k → v.ownBlock = some k ∨ k = w.heap.size) → wpList Tryz.prog ops Q rest (a.put o.dst v') w') : wpList Tryz.prog ops Q (o :: rest) a w := by
  refine wpList_plain hgd fun K hK => ?_
  obtain ⟨v', w', hr, h2, h3, h4⟩ := append_text_lies o.type hown s (by unfold maxLen; omega) (by omega) hbase
  unfold Oper.wp execOp
  simp only [ho, resolve, invoke, builtin, Sem.run_bind, Sem.run_pure, Result.andThen_ok, List.map_toArray, List.map_cons, List.map_nil, hs, hx, hr]
  refine hK _ _ (h v' w' ?_ h3 h4)
  unfold OwnsB
  have e1 : (b ++ s.data.toList).length = b.length + s.size := by simp
  have e2 : (b ++ s.data.toList).map (fun c => Value.int .u8 c.toNat) = b.map (fun c => Value.int .u8 c.toNat) ++ Lib.strCells s := by
    rw [List.map_append]
    rfl
  rw [e1, e2]
  exact h2

#print axioms wpList_append_text
end Go.Proofs.YtfkdeknblbmibaaGreatDoor
