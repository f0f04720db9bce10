/-
  A part as data ('Pt'), a slice of parts that a call builds ('OwnsP'), and lex's plain walked: one unquoted octet put to the parts.
-/
import Derived.Test.YtfkdeknblbmibaaGreatDoorA3
import Derived.Deep.RegionHeld3
import Derived.Deep.DeepMust
namespace Go.Proofs.YtfkdeknblbmibaaGreatDoor
open Go.RowKit

/-! ### parts -/

/-- A slice, as data. -/
abbrev slT (x : Nat × List T) : T := .sl x.1 x.2
theorem Rep.slice {w : World} {A : Nat → Prop} {x : Nat × List T} {v : Value} (h : Rep w A (slT x) v) : ∃ a cap, v = .slice a x.1 cap := by
  rcases h with ⟨h0, _, a, cap, h⟩ | ⟨g, off, cap, h, _⟩
  · exact ⟨a, cap, by rw [h, h0]⟩
  · exact ⟨some ⟨g, off, none⟩, cap, h⟩

/-- A part as data. -/
structure Pt where
  kind : Int
  text : ByteArray
  name : ByteArray := ⟨#[]⟩
  op : ByteArray := ⟨#[]⟩
  quoted : Bool := false
  word : Nat × List T := (0, [])
  more : Nat × List T := (0, [])
  sums : Nat × List T := (0, [])
  list : Nat × List T := (0, [])
  place : Int := 0

def Pt.cells (p : Pt) : List T := [.atom (.int .i64 p.kind), .atom (.string p.text), .atom (.string p.name), .atom (.string p.op), .atom (.bool p.quoted), slT p.word, slT p.more, slT p.sums, slT p.list, .atom (.int .i64 p.place)]
def cellsOf (l : List Pt) : List T := l.flatMap Pt.cells

theorem Pt.cells_length (p : Pt) : p.cells.length = 10 := rfl
theorem cellsOf_length (l : List Pt) : (cellsOf l).length = l.length * 10 := by
  induction l with
  | nil => rfl
  | cons p l ih => simp only [cellsOf, List.flatMap_cons, List.length_append, Pt.cells_length, List.length_cons] at *; omega
theorem cellsOf_append (l m : List Pt) : cellsOf (l ++ m) = cellsOf l ++ cellsOf m := by simp [cellsOf]

/-- The parts that the call itself builds. -/
def OwnsP (w : World) (B : Nat) (v : Value) (l : List Pt) : Prop := Owns w B 32 10 v l.length (cellsOf l)

theorem info_part : (Tryz.prog.info? 32).map (fun i => (i.zero, i.size, i.bytes)) = some (some (.agg #[.int .i64 0, .string ⟨#[]⟩, .string ⟨#[]⟩, .string ⟨#[]⟩, .bool false, .slice none 0 0, .slice none 0 0, .slice none 0 0, .slice none 0 0, .int .i64 0]), 10, 168) := by kernel_rfl

/-- 'string([]byte{c})'. -/
theorem bytes_one (c : UInt8) (wx : World) : (convert 73 9 (.slice (some ⟨wx.heap.size, 0, none⟩) 1 1)).run Tryz.prog (wx.alloc (.cells #[.int .u8 c.toNat] 5)) = .ok (.string ⟨#[c]⟩) (wx.alloc (.cells #[.int .u8 c.toNat] 5)) :=
  run_convert_bytes_back _ 73 9 5 ⟨wx.heap.size, 0, none⟩ 1 [c] Tryz.underlying73 Tryz.underlying5 Tryz.underlying9 (fun j hj => by
    have : j = 0 := by simpa using hj
    subst this
    simp [Addr.add])

theorem bytes_one_d (c : UInt8) (wx : World) : (convert 73 9 (.slice (some ⟨wx.heap.size, 0, none⟩) 1 1)).run Tryz.prog (wx.alloc (.cells #[.int .u8 c.toNat] 5)).drew = .ok (.string ⟨#[c]⟩) (wx.alloc (.cells #[.int .u8 c.toNat] 5)).drew :=
  bytes_one c wx.drew

/-- A row that is owned, its last part: where it lies. -/
theorem OwnsP.last {w : World} {B : Nat} {v : Value} {l : List Pt} {p : Pt} (h : OwnsP w B v (l ++ [p])) :
    ∃ g cap, v = .slice (some ⟨g, 0, none⟩) (l.length + 1) cap ∧ B ≤ g ∧ g < w.heap.size ∧ (∀ i, w.frozen? ⟨g, i, none⟩ = false) ∧
      ∀ (i : Nat) (t : T), p.cells[i]? = some t → ∃ u, w.cell? ⟨g, l.length * 10 + i, none⟩ = some u ∧ Rep w (fun k => B ≤ k ∧ k ≠ g) t u := by
  obtain ⟨xs, h1, h2⟩ := h
  rw [List.length_append] at h1
  rcases h1.2 with ⟨_, h0⟩ | ⟨g, cap, cur, hv, hb, hg, hnc, hcm, hcs, htake⟩
  · simp at h0
  · refine ⟨g, cap, by rw [hv]; rfl, hb, heap_lt hg, fun i => free_at hg i, fun i t ht => ?_⟩
    subst hv
    have hi : i < 10 := by
      have := (List.getElem?_eq_some_iff.1 ht).1
      rwa [Pt.cells_length] at this
    have hlen := cellsOf_length l
    obtain ⟨u, hu, hr⟩ := h2.at (l.length * 10 + i) t (by rw [cellsOf_append, List.getElem?_append_right (by omega), hlen]; simpa [cellsOf] using ht)
    refine ⟨u, ?_, hr.mono (fun k _ hk => ⟨hk.1, fun e => hk.2 (by rw [e]; rfl)⟩)⟩
    rw [cell_at hg]
    rw [← htake, List.getElem?_take] at hu
    split at hu
    · simpa using hu
    · cases hu

/-- A store into a cell of a row that is owned. -/
theorem Owns.set {w : World} {B : Nat} {e : TypeId} {size n g cap : Nat} {ts : List T} (h : Owns w B e size (.slice (some ⟨g, 0, none⟩) n cap) n ts) {i : Nat} {t : T} {u : Value} (hr : Rep w (fun k => B ≤ k ∧ k ≠ g) t u) :
    Owns (w.setCell ⟨g, i, none⟩ u) B e size (.slice (some ⟨g, 0, none⟩) n cap) n (ts.set i t) := by
  obtain ⟨xs, h1, h2⟩ := h
  have hlen := h2.length
  have hkeep : ∀ k, k < w.heap.size → (B ≤ k ∧ Value.ownBlock (.slice (some ⟨g, 0, none⟩) n cap) ≠ some k) → (B ≤ k ∧ Value.ownBlock (.slice (some ⟨g, 0, none⟩) n cap) ≠ some k) ∧ (w.setCell ⟨g, i, none⟩ u).heap[k]? = w.heap[k]? ∧ k < (w.setCell ⟨g, i, none⟩ u).heap.size := by
    intro k hk ha
    refine ⟨ha, Below.heap_setCell _ _ _ _ (fun e => ha.2 (by rw [e]; rfl)), by simpa [World.setCell] using hk⟩
  rcases h1.2 with ⟨h0, _⟩ | ⟨g', cap', cur, hv, hb, hg, hnc, hcm, hcs, htake⟩
  · cases h0
  · cases hv
    refine ⟨xs.set i u, ⟨by rw [List.length_set]; exact h1.1, .inr ⟨g, cap, _, rfl, hb, heap_setCell_at hg i u, hnc, hcm, by simpa using hcs, ?_⟩⟩, ?_⟩
    · rw [Array.toList_setIfInBounds, List.take_set, htake]
    · have h3 : RepL (w.setCell ⟨g, i, none⟩ u) (fun k => B ≤ k ∧ Value.ownBlock (.slice (some ⟨g, 0, none⟩) n cap) ≠ some k) ts xs := RepL.imp (fun k hk ha => hkeep k hk ha) h2
      have h4 : Rep (w.setCell ⟨g, i, none⟩ u) (fun k => B ≤ k ∧ Value.ownBlock (.slice (some ⟨g, 0, none⟩) n cap) ≠ some k) t u :=
        Rep.imp (fun k hk ha => hkeep k hk ⟨ha.1, fun e => ha.2 (by simpa [Value.ownBlock] using e.symm)⟩) t u hr
      exact RepL.set h3 i h4

/-- What an unquoted octet makes of the parts. -/
def plainS (out : List Pt) (c : UInt8) : List Pt :=
  match out.getLast? with
  | some p => if p.kind = 1 ∧ p.quoted = false then out.dropLast ++ [{ p with text := p.text ++ ⟨#[c]⟩ }] else out ++ [{ kind := 1, text := ⟨#[c]⟩ }]
  | none => [{ kind := 1, text := ⟨#[c]⟩ }]

theorem cells_set_text (l : List Pt) (p : Pt) (t : ByteArray) : (cellsOf (l ++ [p])).set (l.length * 10 + 1) (.atom (.string t)) = cellsOf (l ++ [{ p with text := t }]) := by
  rw [cellsOf_append, cellsOf_append, List.set_append_right _ _ (by rw [cellsOf_length]; omega), cellsOf_length]
  congr 1
  rw [show l.length * 10 + 1 - l.length * 10 = 1 from by omega]
  rfl

theorem OwnsP.setText {w : World} {B g cap : Nat} {l : List Pt} {p : Pt} (h : OwnsP w B (.slice (some ⟨g, 0, none⟩) (l.length + 1) cap) (l ++ [p])) (t : ByteArray) :
    OwnsP (w.setCell ⟨g, l.length * 10 + 1, none⟩ (.string t)) B (.slice (some ⟨g, 0, none⟩) (l.length + 1) cap) (l ++ [{ p with text := t }]) := by
  unfold OwnsP at h ⊢
  have e1 : (l ++ [p]).length = l.length + 1 := by simp
  have e2 : (l ++ [{ p with text := t }]).length = l.length + 1 := by simp
  rw [e1] at h
  rw [e2, ← cells_set_text l p t]
  exact Owns.set h rfl

theorem OwnsP.kept {w w' : World} {B : Nat} {v : Value} {l : List Pt} {S : Nat → Prop} (h : OwnsP w B v l) (k : Kept S w w') (hS : ∀ g, g < w.heap.size → B ≤ g → ¬ S g) : OwnsP w' B v l := Owns.kept h k hS

theorem atom_cell {w : World} {A : Nat → Prop} {a : Addr} {v : Value} (h : ∃ u, w.cell? a = some u ∧ Rep w A (.atom v) u) : w.cell? a = some v := by
  obtain ⟨u, h1, h2⟩ := h
  rw [h1]
  exact congrArg some h2

set_option maxRecDepth 100000 in
set_option maxHeartbeats 400000 in
theorem plain_join (B : Nat) (v : Value) (l : List Pt) (p : Pt) (c : UInt8) (w : World) (hm : l.length ≤ 1000000) (ht : p.text.size ≤ 4611686018427387904) (ho : OwnsP w B v (l ++ [p])) (hk : p.kind = 1) (hq : p.quoted = false) :
    Calls Tryz.prog 38 #[v, .int .u8 c.toNat] w fun e w' => e = .returned v ∧ OwnsP w' B v (l ++ [{ p with text := p.text ++ ⟨#[c]⟩ }]) ∧ Kept (fun k => v.ownBlock = some k) w w' := by
  obtain ⟨g, cap, rfl, hB, hg, hf, hc⟩ := ho.last
  have h0 := atom_cell (hc 0 _ rfl)
  have h1 := atom_cell (hc 1 _ rfl)
  have h4 := atom_cell (hc 4 _ rfl)
  rw [hk, Nat.add_zero] at h0
  rw [hq] at h4
  have f1 := hf (l.length * 10 + 1)
  obtain ⟨m, hl⟩ : ∃ m, l.length = m := ⟨_, rfl⟩
  obtain ⟨text, htx⟩ : ∃ text, p.text = text := ⟨_, rfl⟩
  have HO := Lib.hid ho
  have HL := Lib.hid hl
  have HT := Lib.hid htx
  rw [hl] at h0 h1 h4 f1 hm
  rw [htx] at h1 ht
  rw [hl]
  clear ho hc hl htx hk hq hf
  have b1 : (0 : Int) ≤ (m : Int) := by omega
  have b2 : (m : Int) < (m : Int) + 1 := by omega
  have b3 : (m : Int) < ((m + 1 : Nat) : Int) := by omega
  have hcb := bytes_one_d c
  have hadd := fun (wx : World) => run_string_add_sum (P := Tryz.prog) wx text ⟨#[c]⟩ (by simp only [ByteArray.size_mk']; simp; omega)
  go_enter Tryz.func38, Tryz.ntmps38
  go_wp2
  go_region
  go_wp2
  go_ret
  have k1 : Kept (fun k => (Value.slice (some ⟨g, 0, none⟩) (m + 1) cap).ownBlock = some k) w (w.setCell ⟨g, m * 10 + 1, none⟩ (.string (text ++ ⟨#[c]⟩))) := (Kept.refl _ _).setCell ⟨g, m * 10 + 1, none⟩ _ (fun _ => rfl)
  refine ⟨rfl, ?_, (k1.alloc _).drew⟩
  have h5 := OwnsP.setText (l := l) (p := p) (g := g) (cap := cap) HO.out (text ++ ⟨#[c]⟩)
  rw [HL.out] at h5
  rw [HT.out]
  exact h5.kept (((Kept.refl (fun _ => False) _).alloc _).drew) (fun _ _ _ f => f)

theorem OwnsP.len {w : World} {B : Nat} {v : Value} {l : List Pt} (h : OwnsP w B v l) : ∃ a cap, v = .slice a l.length cap := by
  obtain ⟨xs, h1, h2⟩ := h
  rcases h1.2 with ⟨hv, h0⟩ | ⟨g, cap, cur, hv, _⟩
  · exact ⟨none, 0, by rw [hv, h0]⟩
  · exact ⟨some ⟨g, 0, none⟩, cap, hv⟩

/-- Three ways in which an octet begins a new part. -/
def Fresh (out : List Pt) : Prop := out = [] ∨ ∃ l p, out = l ++ [p] ∧ (p.kind ≠ 1 ∨ p.quoted = true)

theorem plainS_fresh {out : List Pt} (h : Fresh out) (c : UInt8) : plainS out c = out ++ [{ kind := 1, text := ⟨#[c]⟩ }] := by
  rcases h with rfl | ⟨l, p, rfl, hp⟩
  · rfl
  · unfold plainS
    rw [List.getLast?_concat]
    simp only
    rw [if_neg]
    rintro ⟨h1, h2⟩
    rcases hp with hp | hp
    · exact hp h1
    · rw [h2] at hp; cases hp

def PlainPost (B : Nat) (v : Value) (out : List Pt) (w : World) (e : Ending) (w' : World) : Prop := ∃ v', e = .returned v' ∧ OwnsP w' B v' out ∧ Kept (fun k => v.ownBlock = some k) w w'

/-- A new part's cells, in a block of their own. -/
theorem cell_new {w : World} {c : Array Value} {e : TypeId} {n : Nat} (hn : n = w.heap.size) (j : Nat) (u : Value) (h : c.toList[j]? = some u) : (w.alloc (.cells c e)).cell? ((⟨n, 0, none⟩ : Addr).add j) = some u := by
  subst hn
  have : (⟨w.heap.size, 0, none⟩ : Addr).add j = ⟨w.heap.size, j, none⟩ := by unfold Addr.add; split <;> simp_all
  rw [this]
  simpa using h

theorem RepL.atoms {w : World} {A : Nat → Prop} {p : Pt} {v5 v6 v7 v8 : Value} (h5 : Rep w A (slT p.word) v5) (h6 : Rep w A (slT p.more) v6) (h7 : Rep w A (slT p.sums) v7) (h8 : Rep w A (slT p.list) v8) :
    RepL w A (cellsOf [p]) [.int .i64 p.kind, .string p.text, .string p.name, .string p.op, .bool p.quoted, v5, v6, v7, v8, .int .i64 p.place] :=
  ⟨rfl, rfl, rfl, rfl, rfl, h5, h6, h7, h8, rfl, trivial⟩

set_option maxRecDepth 100000 in
set_option maxHeartbeats 1000000 in
theorem plain_new (B : Nat) (v : Value) (out : List Pt) (c : UInt8) (w : World) (hB : B ≤ w.heap.size) (hm : out.length ≤ 1000000) (ho : OwnsP w B v out) (hf : Fresh out) :
    Calls Tryz.prog 38 #[v, .int .u8 c.toNat] w (PlainPost B v (out ++ [{ kind := 1, text := ⟨#[c]⟩ }]) w) := by
  have hcb := bytes_one c
  obtain ⟨i0, hi, hz0, hz1, hz2⟩ := info_parts info_part
  obtain ⟨xs, h1, h2⟩ := id ho
  rcases hf with rfl | ⟨l, p, rfl, hp⟩
  · obtain ⟨ao, cap, rfl⟩ := ho.len
    have H1 := Lib.hid h1
    have H2 := Lib.hid h2
    clear h1 h2 ho
    go_enter Tryz.func38, Tryz.ntmps38
    go_wp2_with (at_builtin; go_must (refine wpList_append_lies _ rfl (.tmp 39) (.tmp 44) 23 rfl B 32 i0 _ 10 168 Tryz.underlying23 hi hz0 hz1 hz2 rfl (by decide) _ 0 xs rfl ((H1.out.alloc _).alloc _) ⟨w.heap.size + 1, 0, none⟩ 1 1 [.int .i64 1, .string ⟨#[c]⟩, .string ⟨#[]⟩, .string ⟨#[]⟩, .bool false, .slice none 0 0, .slice none 0 0, .slice none 0 0, .slice none 0 0, .int .i64 0] rfl rfl ?c1 ?c2 (by decide) ?c3 ?c4 ?c5 _ rfl ?_))
    case c1 => exact fun j u h => cell_new (by simp) j u h
    case c2 => simp [Value.oneCell']
    case c3 => unfold maxLen; omega
    case c4 => omega
    case c5 => simp; omega
    intro g cap' w' ho' hg' hv' _
    have K2 : Kept (fun _ => False) w ((w.alloc (.cells #[.int .u8 c.toNat] 5)).alloc (.cells #[.int .i64 1, .string ⟨#[c]⟩, .string ⟨#[]⟩, .string ⟨#[]⟩, .bool false, .slice none 0 0, .slice none 0 0, .slice none 0 0, .slice none 0 0, .int .i64 0] 32)) := ((Kept.refl _ _).alloc _).alloc _
    have HO := Lib.hid (Owns.grow (v := .slice ao 0 cap) (H2.out.kept K2 (fun _ _ _ f => f)) (RepL.atoms (p := { kind := 1, text := ⟨#[c]⟩ }) (Rep.nil _ _) (Rep.nil _ _) (Rep.nil _ _) (Rep.nil _ _)) ho' hg' (hv'.imp id (fun h => by simpa using h)))
    have HK := Lib.hid ((K2.mono (fun _ _ f => f.elim)).grown hg' (fun k hk _ => hk))
    clear ho' hg' hv'
    go_wp2
    go_ret
    exact ⟨_, rfl, HO.out, HK.out⟩
  · obtain ⟨g0, cap, rfl, hB0, hg0, hf0, hc⟩ := ho.last
    have h0 := atom_cell (hc 0 _ rfl)
    have h4 := atom_cell (hc 4 _ rfl)
    rw [Nat.add_zero] at h0
    obtain ⟨m, hl⟩ : ∃ m, l.length = m := ⟨_, rfl⟩
    have e1 : (l ++ [p]).length = m + 1 := by simp [hl]
    rw [e1] at h1 hm
    rw [hl] at h0 h4 h1 h2
    rw [hl]
    obtain ⟨kind, hkd⟩ : ∃ kind, kind = p.kind := ⟨_, rfl⟩
    obtain ⟨quoted, hqd⟩ : ∃ quoted, quoted = p.quoted := ⟨_, rfl⟩
    rw [← hkd] at h0 hp
    rw [← hqd] at h4 hp
    have H1 := Lib.hid h1
    have H2 := Lib.hid h2
    have E1 := Lib.hid e1
    clear h1 h2 ho hc hl hkd hqd e1 hf0
    have b1 : (0 : Int) ≤ (m : Int) := by omega
    have b2 : (m : Int) < (m : Int) + 1 := by omega
    have b3 : (m : Int) < ((m + 1 : Nat) : Int) := by omega
    have hw : (kind == 1) = false ∨ (kind = 1 ∧ quoted = true) := by
      by_cases hk : kind = 1
      · exact .inr ⟨hk, hp.resolve_left (fun h => h hk)⟩
      · exact .inl (by simpa using hk)
    clear hp
    rcases hw with hw | ⟨rfl, rfl⟩
    all_goals
      go_enter Tryz.func38, Tryz.ntmps38
      go_wp2_with (at_builtin; go_must (refine wpList_append_lies _ rfl (.tmp 39) (.tmp 44) 23 rfl B 32 i0 _ 10 168 Tryz.underlying23 hi hz0 hz1 hz2 rfl (by decide) _ (m + 1) xs rfl ((H1.out.alloc _).alloc _) ⟨w.heap.size + 1, 0, none⟩ 1 1 [.int .i64 1, .string ⟨#[c]⟩, .string ⟨#[]⟩, .string ⟨#[]⟩, .bool false, .slice none 0 0, .slice none 0 0, .slice none 0 0, .slice none 0 0, .int .i64 0] rfl rfl ?_ ?_ (by decide) ?_ ?_ ?_ _ rfl ?_))
      · exact fun j u h => cell_new (by simp) j u h
      · simp [Value.oneCell']
      · unfold maxLen; omega
      · omega
      · simp; omega
      intro g cap' w' ho' hg' hv' _
      have K2 : Kept (fun _ => False) w ((w.alloc (.cells #[.int .u8 c.toNat] 5)).alloc (.cells #[.int .i64 1, .string ⟨#[c]⟩, .string ⟨#[]⟩, .string ⟨#[]⟩, .bool false, .slice none 0 0, .slice none 0 0, .slice none 0 0, .slice none 0 0, .int .i64 0] 32)) := ((Kept.refl _ _).alloc _).alloc _
      have HO := Lib.hid (Owns.grow (v := .slice (some ⟨g0, 0, none⟩) (m + 1) cap) (H2.out.kept K2 (fun _ _ _ f => f)) (RepL.atoms (p := { kind := 1, text := ⟨#[c]⟩ }) (Rep.nil _ _) (Rep.nil _ _) (Rep.nil _ _) (Rep.nil _ _)) ho' hg' (hv'.imp id (fun h => by simpa using h)))
      have HK := Lib.hid ((K2.mono (fun _ _ f => f.elim)).grown hg' (fun k hk _ => hk))
      clear ho' hg' hv'
      go_wp2
      go_ret
      refine ⟨_, rfl, ?_, HK.out⟩
      have := HO.out
      rw [← cellsOf_append] at this
      unfold OwnsP
      rw [List.length_append, E1.out]
      exact this

/-- 'plain'. -/
theorem plain_any (B : Nat) (v : Value) (out : List Pt) (c : UInt8) (w : World) (hB : B ≤ w.heap.size) (hm : out.length ≤ 1000000) (ht : ∀ p ∈ out, p.text.size ≤ 4611686018427387904) (ho : OwnsP w B v out) :
    Calls Tryz.prog 38 #[v, .int .u8 c.toNat] w (PlainPost B v (plainS out c) w) := by
  rcases List.eq_nil_or_concat out with rfl | ⟨l, p, rfl⟩
  · exact plain_new B v [] c w hB hm ho (.inl rfl)
  · rw [List.concat_eq_append] at *
    by_cases h : p.kind = 1 ∧ p.quoted = false
    · have e : plainS (l ++ [p]) c = l ++ [{ p with text := p.text ++ ⟨#[c]⟩ }] := by
        unfold plainS
        rw [List.getLast?_concat]
        simp only
        rw [if_pos h, List.dropLast_concat]
      rw [e]
      refine (plain_join B v l p c w (by simp at hm; omega) (ht p (by simp)) ho h.1 h.2).mono fun e w' ⟨h1, h2, h3⟩ => ⟨v, h1, h2, h3⟩
    · have hf : Fresh (l ++ [p]) := .inr ⟨l, p, rfl, by
        by_cases hk : p.kind = 1
        · exact .inr (by cases hq : p.quoted; exact absurd ⟨hk, hq⟩ h; rfl)
        · exact .inl hk⟩
      rw [plainS_fresh hf]
      exact plain_new B v (l ++ [p]) c w hB hm ho hf

#print axioms plain_any
end Go.Proofs.YtfkdeknblbmibaaGreatDoor
