/-
  lex: joined is walked: parts put to the ones ahead, as 'joinedS' says.
-/
import Derived.Test.YtfkdeknblbmibaaGreatDoorA5
namespace Go.Proofs.YtfkdeknblbmibaaGreatDoor
open Go.RowKit

/-- All texts' octets. -/
def tsum (l : List Pt) : Nat := (l.map (·.text.size)).sum

theorem tsum_append (l m : List Pt) : tsum (l ++ m) = tsum l + tsum m := by simp [tsum]
theorem tsum_mem {l : List Pt} {p : Pt} (h : p ∈ l) : p.text.size ≤ tsum l := by
  unfold tsum
  induction l with
  | nil => cases h
  | cons q l ih =>
    simp only [List.map_cons, List.sum_cons]
    rcases List.mem_cons.1 h with rfl | h
    · omega
    · have := ih h; omega

theorem joinS_nil (p : Pt) : joinS [] p = [p] := rfl
theorem joinS_concat (o : List Pt) (q p : Pt) : joinS (o ++ [q]) p = if mergesB (o ++ [q]) p = true then o ++ [{ q with text := q.text ++ p.text }] else o ++ [q] ++ [p] := by
  unfold joinS
  rw [List.getLast?_concat]
  simp
theorem mergesB_concat (o : List Pt) (q p : Pt) : mergesB (o ++ [q]) p = (p.kind == 1 && p.quoted && p.op.data.toList.isEmpty && q.kind == 1 && q.quoted && q.op.data.toList.isEmpty) := by
  unfold mergesB
  rw [List.getLast?_concat]

theorem tsum_joinS (out : List Pt) (p : Pt) : tsum (joinS out p) = tsum out + p.text.size ∧ (joinS out p).length ≤ out.length + 1 := by
  rcases List.eq_nil_or_concat out with rfl | ⟨o, q, rfl⟩
  · simp [joinS_nil, tsum]
  · rw [List.concat_eq_append, joinS_concat]
    split
    · rw [tsum_append, tsum_append]
      simp [tsum, ByteArray.size_append]
      omega
    · rw [tsum_append]
      simp [tsum]

/-- What holds at the head of joined's loop. -/
def JoinRel (B : Nat) (v : Value) (out l : List Pt) (la : Option Addr) (lcap : Nat) (w : World) (k : Nat) (v' : Value) (wr : World) : Prop :=
  OwnsP wr B v' (joinedS out (l.take k)) ∧ (∀ b, v'.ownBlock = some b → v.ownBlock = some b ∨ w.heap.size ≤ b) ∧ Kept (fun b => v.ownBlock = some b) w wr ∧
    Rep wr (fun b => B ≤ b ∧ v'.ownBlock ≠ some b) (.sl l.length (cellsOf l)) (.slice la l.length lcap)

theorem tsum_joined {out l : List Pt} {M : Nat} (h : tsum out + tsum l ≤ M) (k : Nat) : tsum (joinedS out (l.take k)) + tsum (l.drop k) ≤ M := by
  have : ∀ (l out : List Pt), tsum (joinedS out l) = tsum out + tsum l := by
    intro l
    induction l with
    | nil => intro out; simp [joinedS, tsum]
    | cons p l ih =>
      intro out
      have := ih (joinS out p)
      unfold joinedS at this ⊢
      rw [List.foldl_cons, this, (tsum_joinS out p).1]
      simp [tsum]
      omega
  rw [this, Nat.add_assoc, ← tsum_append, List.take_append_drop]
  exact h

theorem length_joined (out l : List Pt) (k : Nat) : (joinedS out (l.take k)).length ≤ out.length + l.length := by
  have : ∀ (l out : List Pt), (joinedS out l).length ≤ out.length + l.length := by
    intro l
    induction l with
    | nil => intro out; simp [joinedS]
    | cons p l ih =>
      intro out
      have := ih (joinS out p)
      unfold joinedS at this ⊢
      rw [List.foldl_cons, List.length_cons]
      have := (tsum_joinS out p).2
      omega
  have := this (l.take k) out
  simp at this
  omega

theorem JoinRel.grow {B : Nat} {v v' : Value} {out l o : List Pt} {la : Option Addr} {lcap k g n cap : Nat} {w wr w' : World} (h : JoinRel B v out l la lcap w k v' wr)
    (ho : OwnsP w' B (.slice (some ⟨g, 0, none⟩) n cap) o) (he : joinedS out (l.take (k + 1)) = o) (hk : Kept (fun b => v'.ownBlock = some b) wr w') (hv : v'.ownBlock = some g ∨ wr.heap.size ≤ g) : JoinRel B v out l la lcap w (k + 1) (.slice (some ⟨g, 0, none⟩) n cap) w' := by
  obtain ⟨_, h2, h3, h4⟩ := h
  refine ⟨he ▸ ho, ?_, ?_, ?_⟩
  · intro b hb
    simp only [Value.ownBlock, Option.some.injEq] at hb
    subst hb
    rcases hv with hv | hv
    · exact h2 _ hv
    · exact .inr (Nat.le_trans h3.size hv)
  · exact h3.trans hk (fun i hi hs => (h2 i hs).resolve_right (by omega))
  · refine Rep.imp ?_ _ _ h4
    intro b hb ⟨ha, hn⟩
    refine ⟨⟨ha, ?_⟩, hk.block b hb hn, Nat.lt_of_lt_of_le hb hk.size⟩
    intro e
    simp only [Value.ownBlock, Option.some.injEq] at e
    subst e
    rcases hv with hv | hv
    · exact hn hv
    · omega

theorem cellsOf_at {l : List Pt} {k : Nat} {p : Pt} (h : l[k]? = some p) (i : Nat) (hi : i < 10) : (cellsOf l)[k * 10 + i]? = p.cells[i]? := by
  induction l generalizing k with
  | nil => simp at h
  | cons q l ih =>
    have e : cellsOf (q :: l) = q.cells ++ cellsOf l := rfl
    rw [e]
    cases k with
    | zero =>
      simp at h
      subst h
      rw [List.getElem?_append_left (by rw [Pt.cells_length]; omega), Nat.zero_mul, Nat.zero_add]
    | succ k =>
      simp at h
      rw [List.getElem?_append_right (by rw [Pt.cells_length]; omega), Pt.cells_length, show (k + 1) * 10 + i - 10 = k * 10 + i from by omega]
      exact ih h

/-- The ten cells of a part in a slice that reads as parts. -/
theorem part_at {w : World} {A : Nat → Prop} {l : List Pt} {la : Option Addr} {lcap k : Nat} {p : Pt} (h : Rep w A (.sl l.length (cellsOf l)) (.slice la l.length lcap)) (hp : l[k]? = some p) :
    ∃ g off, la = some ⟨g, off, none⟩ ∧ g < w.heap.size ∧ w.cell? ⟨g, off + k * 10, none⟩ = some (.int .i64 p.kind) ∧ w.cell? ⟨g, off + k * 10 + 1, none⟩ = some (.string p.text) ∧
      w.cell? ⟨g, off + k * 10 + 2, none⟩ = some (.string p.name) ∧ w.cell? ⟨g, off + k * 10 + 3, none⟩ = some (.string p.op) ∧ w.cell? ⟨g, off + k * 10 + 4, none⟩ = some (.bool p.quoted) ∧
      (∃ v5, w.cell? ⟨g, off + k * 10 + 5, none⟩ = some v5 ∧ Rep w A (slT p.word) v5) ∧ (∃ v6, w.cell? ⟨g, off + k * 10 + 6, none⟩ = some v6 ∧ Rep w A (slT p.more) v6) ∧
      (∃ v7, w.cell? ⟨g, off + k * 10 + 7, none⟩ = some v7 ∧ Rep w A (slT p.sums) v7) ∧ (∃ v8, w.cell? ⟨g, off + k * 10 + 8, none⟩ = some v8 ∧ Rep w A (slT p.list) v8) ∧
      w.cell? ⟨g, off + k * 10 + 9, none⟩ = some (.int .i64 p.place) := by
  rcases h with ⟨h0, _⟩ | ⟨g, off, cap, hv, hc, hn, hA, hg, hr⟩
  · have : l = [] := List.eq_nil_of_length_eq_zero h0
    subst this
    simp at hp
  · cases hv
    have key : ∀ (i : Nat) (t : T), i < 10 → p.cells[i]? = some t → ∃ u, w.cell? ⟨g, off + k * 10 + i, none⟩ = some u ∧ Rep w A t u := by
      intro i t hi ht
      have := hr.cell (k * 10 + i) t (by rw [cellsOf_at hp i hi]; exact ht)
      rwa [← Nat.add_assoc] at this
    exact ⟨g, off, rfl, hg, atom_cell (key 0 _ (by omega) rfl), atom_cell (key 1 _ (by omega) rfl), atom_cell (key 2 _ (by omega) rfl), atom_cell (key 3 _ (by omega) rfl), atom_cell (key 4 _ (by omega) rfl),
      key 5 _ (by omega) rfl, key 6 _ (by omega) rfl, key 7 _ (by omega) rfl, key 8 _ (by omega) rfl, atom_cell (key 9 _ (by omega) rfl)⟩

set_option maxRecDepth 100000 in
set_option maxHeartbeats 4000000 in
theorem joined_any (B : Nat) (v lv : Value) (out l : List Pt) (w : World) (hB : B ≤ w.heap.size) (hm : out.length + l.length ≤ 1000000) (ht : tsum out + tsum l ≤ 1000000) (ho : OwnsP w B v out)
    (hl : Rep w (fun k => B ≤ k ∧ v.ownBlock ≠ some k) (.sl l.length (cellsOf l)) lv) :
    Calls Tryz.prog 33 #[v, lv] w (PlainPost B v (joinedS out l) w) := by
  have hlv : ∃ a cap, lv = .slice a l.length cap := by
    rcases hl with ⟨h0, _, a, cap, h⟩ | ⟨g, off, cap, h, _⟩
    · exact ⟨a, cap, by rw [h, h0]⟩
    · exact ⟨some ⟨g, off, none⟩, cap, h⟩
  obtain ⟨la, lcap, rfl⟩ := hlv
  have HL := Lib.hid hl
  have HO := Lib.hid ho
  have HT := Lib.hid ht
  clear hl ho ht
  obtain ⟨i0, hi, hz0, hz1, hz2⟩ := info_parts info_part
  go_enter Tryz.func33, Tryz.ntmps33
  go_wp2
  go_loopw [0, 6, 7, 10] (fun v' _ _ i wr => ∃ k : Nat, k ≤ l.length ∧ i = .int .i64 k ∧ JoinRel B v out l la lcap w k v' wr) (fun _ _ _ i _ => l.length - (intOf i).toNat)
  case atStart => exact ⟨0, Nat.zero_le _, rfl, HO.out, (fun k h => .inl h), Kept.refl _ _, HL.out⟩
  case round =>
    obtain ⟨k, hk, rfl, hrel⟩ := hrel
    have HR := Lib.hid hrel
    clear hrel
    by_cases hlt : k < l.length
    · obtain ⟨p, hp⟩ : ∃ p, l[k]? = some p := ⟨l[k], List.getElem?_eq_getElem hlt⟩
      have HP := Lib.hid hp
      obtain ⟨g, off, rfl, hgl, c0, c1, c2, c3, c4, ⟨v5, c5, e5⟩, ⟨v6, c6, e6⟩, ⟨v7, c7, e7⟩, ⟨v8, c8, e8⟩, c9⟩ := part_at HR.out.2.2.2 hp
      obtain ⟨a5, k5, rfl⟩ := e5.slice
      obtain ⟨a6, k6, rfl⟩ := e6.slice
      obtain ⟨a7, k7, rfl⟩ := e7.slice
      obtain ⟨a8, k8, rfl⟩ := e8.slice
      have E5 := Lib.hid e5
      have E6 := Lib.hid e6
      have E7 := Lib.hid e7
      have E8 := Lib.hid e8
      clear hp e5 e6 e7 e8
      have b1 : (0 : Int) ≤ (k : Int) := by omega
      have b2 : (k : Int) < (l.length : Int) := by omega
      obtain ⟨o, hoo⟩ : ∃ o, joinedS out (l.take k) = o := ⟨_, rfl⟩
      have hst : joinedS out (l.take (k + 1)) = joinS o p := by
        unfold joinedS at hoo ⊢
        rw [List.take_add_one, HP.out, Option.toList_some, List.foldl_append, hoo]
        rfl
      have how : OwnsP wr B u0 o := hoo ▸ HR.out.1
      have hts := tsum_joined HT.out k
      rw [hoo] at hts
      have htp : p.text.size ≤ 1000000 := by
        have := tsum_mem (List.mem_of_getElem? HP.out)
        have := HT.out
        omega
      have hol : o.length ≤ 1000000 := by
        have := length_joined out l k
        rw [hoo] at this
        omega
      have HST := Lib.hid hst
      have HOW := Lib.hid how
      clear hst hoo
      rcases List.eq_nil_or_concat o with rfl | ⟨o', q, rfl⟩
      · obtain ⟨ao, cao, rfl⟩ := how.len
        have hjs := joinS_nil p
        have HJS := Lib.hid hjs
        obtain ⟨xs, h1, h2⟩ := HOW.out
        have H1 := Lib.hid h1
        have H2 := Lib.hid h2
        have hBr : B ≤ wr.heap.size := Nat.le_trans hB HR.out.2.2.1.size
        clear h1 h2 hjs how
        go_wp2_with (at_builtin; go_must (refine wpList_append_lies _ rfl (.tmp 66) (.tmp 68) 23 rfl B 32 i0 _ 10 168 Tryz.underlying23 hi hz0 hz1 hz2 rfl (by decide) _ 0 xs rfl ((H1.out.alloc _).alloc _) ⟨wr.heap.size + 1, 0, none⟩ 1 1 [.int .i64 p.kind, .string p.text, .string p.name, .string p.op, .bool p.quoted, .slice a5 p.word.1 k5, .slice a6 p.more.1 k6, .slice a7 p.sums.1 k7, .slice a8 p.list.1 k8, .int .i64 p.place] rfl rfl ?_ ?_ (by decide) ?_ ?_ ?_ _ rfl ?_))
        · exact fun j u h => cell_new (by simp) j u h
        · simp [Value.oneCell']
        · unfold maxLen; omega
        · omega
        · simp; omega
        intro g' cap' w' ho' hg' hv' _
        have K2 : Kept (fun _ => False) wr ((wr.alloc (.cells #[.int .i64 p.kind, .string p.text, .string p.name, .string p.op, .bool p.quoted, .slice a5 p.word.1 k5, .slice a6 p.more.1 k6, .slice a7 p.sums.1 k7, .slice a8 p.list.1 k8, .int .i64 p.place] 32)).alloc (.cells #[.int .i64 p.kind, .string p.text, .string p.name, .string p.op, .bool p.quoted, .slice a5 p.word.1 k5, .slice a6 p.more.1 k6, .slice a7 p.sums.1 k7, .slice a8 p.list.1 k8, .int .i64 p.place] 32)) := ((Kept.refl _ _).alloc _).alloc _
        have hv2 := hv'.imp (id) (fun h : g' = _ => show wr.heap.size ≤ g' by omega)
        have HO' := Lib.hid (Owns.grow (v := .slice ao 0 cao) (H2.out.kept K2 (fun _ _ _ f => f)) (RepL.atoms (p := p) (E5.out.kept K2 (fun _ _ _ f => f)) (E6.out.kept K2 (fun _ _ _ f => f)) (E7.out.kept K2 (fun _ _ _ f => f)) (E8.out.kept K2 (fun _ _ _ f => f))) ho' hg' (hv'.imp id (fun h => by simpa using h)))
        have HK := Lib.hid ((K2.mono (fun _ _ f => f.elim)).grown hg' (fun k hk _ => hk))
        have HV2 := Lib.hid hv2
        clear ho' hg' hv' hv2
        go_wp2
        go_roundw
        case rel => exact ⟨k + 1, hlt, by go_num, HR.out.grow (g := g') (n := 1) (cap := cap') (show OwnsP _ B _ [p] from HO'.out) (HST.out.trans HJS.out) HK.out HV2.out⟩
        case measure => simp [intOf]; omega
      · rw [List.concat_eq_append] at *
        obtain ⟨g0, cap0, rfl, hB0, hg0, hf0, hc⟩ := how.last
        have d0 := atom_cell (hc 0 _ rfl)
        have d1 := atom_cell (hc 1 _ rfl)
        have d3 := atom_cell (hc 3 _ rfl)
        have d4 := atom_cell (hc 4 _ rfl)
        rw [Nat.add_zero] at d0
        have f1 := hf0 (o'.length * 10 + 1)
        have htq : q.text.size ≤ 1000000 := by
          have : q.text.size ≤ tsum (o' ++ [q]) := tsum_mem (by simp)
          omega
        clear hc hf0 how
        obtain ⟨m, hm'⟩ : ∃ m, o'.length = m := ⟨_, rfl⟩
        rw [List.length_append] at hol
        simp only [hm', List.length_cons, List.length_nil] at hol
        rw [hm'] at d0 d1 d3 d4 f1
        rw [hm']
        have HM := Lib.hid hm'
        clear hm'
        have b3 : (0 : Int) ≤ (m : Int) := by omega
        have b4 : (m : Int) < (m : Int) + 1 := by omega
        have b5 : (m : Int) < ((m + 1 : Nat) : Int) := by omega
        go_upto_region 5 with fail
        go_cut [55] (fun t wx => t = .bool (mergesB (o' ++ [q]) p) ∧ wx = wr.alloc (.cells #[.int .i64 p.kind, .string p.text, .string p.name, .string p.op, .bool p.quoted, .slice a5 p.word.1 k5, .slice a6 p.more.1 k6, .slice a7 p.sums.1 k7, .slice a8 p.list.1 k8, .int .i64 p.place] 32))
        case first =>
          go_wp2
          all_goals go_meet
          all_goals refine ⟨congrArg Value.bool ?_, ?_⟩
          all_goals first | rfl | (simp [*]; done) | skip
          all_goals (rw [mergesB_concat, ← ByteArray.toList_eq, ← ByteArray.toList_eq]; first | (simp_all; done) | (simp [show (p.kind == 1) = false from by rw [beq_eq_false_iff_ne]; exact fun e => (‹¬ (1 : Int) = p.kind›) e.symm]; done))
        case rest =>
          obtain ⟨rfl, rfl⟩ := hcut
          have hjs := joinS_concat o' q p
          cases hmg : mergesB (o' ++ [q]) p
          · rw [hmg] at hjs
            have HJS := Lib.hid (hjs.trans (if_neg (by simp)))
            clear hjs hmg
            obtain ⟨xs, h1, h2⟩ := HOW.out
            have hln : (o' ++ [q]).length = m + 1 := by rw [List.length_append, HM.out]; rfl
            rw [hln, HM.out] at h1
            rw [HM.out] at h2
            have H1 := Lib.hid h1
            have H2 := Lib.hid h2
            have HLN := Lib.hid hln
            have hBr : B ≤ wr.heap.size := Nat.le_trans hB HR.out.2.2.1.size
            clear h1 h2 hln
            go_wp2_with (at_builtin; go_must (refine wpList_append_lies _ rfl (.tmp 66) (.tmp 68) 23 rfl B 32 i0 _ 10 168 Tryz.underlying23 hi hz0 hz1 hz2 rfl (by decide) _ (m + 1) xs rfl ((H1.out.alloc _).alloc _) ⟨wr.heap.size + 1, 0, none⟩ 1 1 [.int .i64 p.kind, .string p.text, .string p.name, .string p.op, .bool p.quoted, .slice a5 p.word.1 k5, .slice a6 p.more.1 k6, .slice a7 p.sums.1 k7, .slice a8 p.list.1 k8, .int .i64 p.place] rfl rfl ?_ ?_ (by decide) ?_ ?_ ?_ _ rfl ?_))
            · exact fun j u h => cell_new (by simp) j u h
            · simp [Value.oneCell']
            · unfold maxLen; omega
            · omega
            · simp; omega
            intro g' cap' w' ho' hg' hv' _
            have K2 : Kept (fun _ => False) wr ((wr.alloc (.cells #[.int .i64 p.kind, .string p.text, .string p.name, .string p.op, .bool p.quoted, .slice a5 p.word.1 k5, .slice a6 p.more.1 k6, .slice a7 p.sums.1 k7, .slice a8 p.list.1 k8, .int .i64 p.place] 32)).alloc (.cells #[.int .i64 p.kind, .string p.text, .string p.name, .string p.op, .bool p.quoted, .slice a5 p.word.1 k5, .slice a6 p.more.1 k6, .slice a7 p.sums.1 k7, .slice a8 p.list.1 k8, .int .i64 p.place] 32)) := ((Kept.refl _ _).alloc _).alloc _
            have hv2 := hv'.imp (id) (fun h : g' = _ => show wr.heap.size ≤ g' by omega)
            have HO' := Lib.hid (Owns.grow (v := .slice (some ⟨g0, 0, none⟩) (m + 1) cap0) (H2.out.kept K2 (fun _ _ _ f => f)) (RepL.atoms (p := p) (E5.out.kept K2 (fun _ _ _ f => f)) (E6.out.kept K2 (fun _ _ _ f => f)) (E7.out.kept K2 (fun _ _ _ f => f)) (E8.out.kept K2 (fun _ _ _ f => f))) ho' hg' (hv'.imp id (fun h => by simpa using h)))
            have HK := Lib.hid ((K2.mono (fun _ _ f => f.elim)).grown hg' (fun k hk _ => hk))
            have HV2 := Lib.hid hv2
            clear ho' hg' hv' hv2
            go_wp2
            go_roundw
            case rel =>
              refine ⟨k + 1, hlt, by go_num, HR.out.grow (g := g') (n := m + 1 + 1) (cap := cap') ?_ (HST.out.trans HJS.out) HK.out HV2.out⟩
              unfold OwnsP
              rw [List.length_append, HLN.out, cellsOf_append]
              exact HO'.out
            case measure => simp [intOf]; omega
          · rw [hmg] at hjs
            have HJS := Lib.hid (hjs.trans (if_pos rfl))
            clear hjs hmg
            obtain ⟨text, htx⟩ : ∃ text, q.text = text := ⟨_, rfl⟩
            obtain ⟨ptext, hpx⟩ : ∃ ptext, p.text = ptext := ⟨_, rfl⟩
            rw [htx] at d1 htq
            rw [hpx] at c1 htp
            rw [hpx]
            have HTX := Lib.hid htx
            have HPX := Lib.hid hpx
            clear htx hpx
            have hadd := fun (wx : World) => run_string_add_sum (P := Tryz.prog) wx text ptext (by omega)
            go_wp2
            go_region
            go_wp2
            go_roundw
            case rel =>
              refine ⟨k + 1, hlt, by go_num, HR.out.grow (g := g0) (n := m + 1) (cap := cap0) ?_ (HST.out.trans HJS.out) ?_ (.inl rfl)⟩
              · have h5 := OwnsP.setText (l := o') (p := q) (g := g0) (cap := cap0) HOW.out (text ++ ptext)
                rw [HM.out] at h5
                rw [HTX.out, HPX.out]
                exact h5.kept (S := fun _ => False) ((((Kept.refl _ _).alloc _)).drew) (fun _ _ _ f => f)
              · have k1 : Kept (fun b => (Value.slice (some ⟨g0, 0, none⟩) (o'.length + 1) cap0).ownBlock = some b) wr (wr.setCell ⟨g0, m * 10 + 1, none⟩ (.string (text ++ ptext))) := kept_at (Kept.refl _ _) _ _ (fun _ => rfl)
                exact (k1.alloc _).drew
            case measure => simp [intOf]; omega
    · go_wp2
      go_ret
      have : k = l.length := by omega
      subst this
      obtain ⟨h1, _, h3, _⟩ := HR.out
      rw [List.take_length] at h1
      exact ⟨_, rfl, h1, h3⟩

end Go.Proofs.YtfkdeknblbmibaaGreatDoor
