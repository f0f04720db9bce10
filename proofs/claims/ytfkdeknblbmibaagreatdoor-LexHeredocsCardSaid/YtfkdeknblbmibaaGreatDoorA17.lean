/-
  lex: Word is walked from place 0: it answers 'wordS'. Condition: the text has at most 65536 octets and 'wordS' says something.
-/
import Derived.Test.YtfkdeknblbmibaaGreatDoorA16
namespace Go.Proofs.YtfkdeknblbmibaaGreatDoor
open Go.RowKit

/-- " \t\n;&|<>()" -/
def metaB : ByteArray := ⟨#[32, 9, 10, 59, 38, 124, 60, 62, 40, 41]⟩

theorem clear_Word (b : Nat) (w : World) {v : Value} (h : w.heap[b]? = some (.cells #[v] 25 (0, 0))) : Calls Tryz.prog 19 #[.pointer (some ⟨b, 0, none⟩)] w fun e w' => e = .returned (.tuple #[]) ∧ w' = w.setCell ⟨b, 0, none⟩ (.slice none 0 0) := by
  have c := cell_of_one h
  have f := free_of_one h
  go_enter Tryz.func19, Tryz.ntmps19
  go_wp2
  go_end0
  exact ⟨rfl, rfl⟩

/-- Parts of a word that begins at 0. -/
def wordS (s : ByteArray) (bash : Bool) : R (List Pt) := partsS s bash (dollarS s bash true) (dollarS s bash false) ⟨#[]⟩ metaB (s.size + 1) 0 []

/-- What Word answers, for a text that is short enough. -/
def WordPost (r : R (List Pt)) (w : World) (e : Ending) (w' : World) : Prop :=
  match r with
  | .ok l a' => ∃ v', e = .returned (.tuple #[.agg #[v'], .int .i64 a', .int .i64 0]) ∧ OwnsP w' w.heap.size v' l ∧ Kept (fun _ => False) w w'
  | .bad a' er => e = .returned (.tuple #[.agg #[.slice none 0 0], .int .i64 a', .int .i64 er]) ∧ Kept (fun _ => False) w w'
  | .out => True

set_option maxRecDepth 100000 in
set_option maxHeartbeats 2000000 in
theorem Word_any (s : ByteArray) (bash : Bool) (w : World) (hs : s.size ≤ 65536) (hr : wordS s bash ≠ .out) :
    Calls Tryz.prog 10 #[.string s, .int .i64 0, .bool bash] w (WordPost (wordS s bash) w) := by
  have hmf : ∀ (fn : Fn) (first cap : Array Value) (wx : World), (Instr.makeFunc fn first cap).run Tryz.prog wx = .ok (.func fn first cap) wx := fun _ _ _ _ => rfl
  have hmin : min (0 : Int) s.size = 0 := by omega
  have hle : (s.size : Int) ≤ 65536 := by omega
  unfold wordS at hr ⊢
  have hcall := fun wx (hx : ScanAt wx (w.heap.size + 1 + 1 + 1) s 0 bash 0) => parts_any (w.heap.size + 1 + 1 + 1) s 0 bash 0 (dollarS s bash true) (dollarS s bash false) ⟨#[]⟩ metaB (s.size + 1) wx (by omega) (Nat.zero_le _) hx (dollar_ok _ s bash true 0 (by omega)) (dollar_ok _ s bash false 0 (by omega)) hr
  obtain ⟨r, hre⟩ : ∃ r, partsS s bash (dollarS s bash true) (dollarS s bash false) ⟨#[]⟩ metaB (s.size + 1) 0 [] = r := ⟨_, rfl⟩
  rw [hre] at hcall hr ⊢
  have HCA := Lib.hid hcall
  have HR := Lib.hid hr
  clear hcall hr hre
  go_enter_defers Tryz.func10, Tryz.ntmps10
  go_wp2_with fail
  refine (need_yes _ _ _).mono ?_
  rintro e w1 ⟨rfl, rfl⟩
  go_wp2_with fail
  refine (place_any s 0 _).mono ?_
  rintro e w1 ⟨rfl, rfl⟩
  go_upto_region 4 with fail
  generalize hw2 : World.alloc _ _ = w2
  have k2 : Kept (fun _ => False) w w2 := by rw [← hw2]; exact ((((Kept.refl _ _).alloc _).alloc _).alloc _).alloc _
  have x2 : ScanAt w2 (w.heap.size + 1 + 1 + 1) s 0 bash 0 := by
    rw [← hw2]
    show (World.alloc _ _).heap[w.heap.size + 1 + 1 + 1]? = _
    rw [show w.heap.size + 1 + 1 + 1 = (((w.alloc (.cells #[.slice none 0 0] 25)).alloc (.cells #[.int .i64 0] 3)).alloc (.cells #[.int .i64 0] 26)).heap.size by simp]
    exact heap_alloc_new _ _
  have hv2 : w2.heap[w.heap.size]? = some (.cells #[.slice none 0 0] 25 (0, 0)) := by
    rw [← hw2]
    exact heap_alloc_keep (heap_alloc_keep (heap_alloc_keep (heap_alloc_new _ _) _) _) _
  have hp2 : w2.heap[w.heap.size + 1]? = some (.cells #[.int .i64 0] 3 (0, 0)) := by
    rw [← hw2]
    refine heap_alloc_keep (heap_alloc_keep ?_ _) _
    rw [show w.heap.size + 1 = (w.alloc (.cells #[.slice none 0 0] 25)).heap.size by simp]
    exact heap_alloc_new _ _
  have hq2 : w2.heap[w.heap.size + 1 + 1]? = some (.cells #[.int .i64 0] 26 (0, 0)) := by
    rw [← hw2]
    refine heap_alloc_keep ?_ _
    rw [show w.heap.size + 1 + 1 = ((w.alloc (.cells #[.slice none 0 0] 25)).alloc (.cells #[.int .i64 0] 3)).heap.size by simp]
    exact heap_alloc_new _ _
  have hvl := heap_lt hv2
  have hpl := heap_lt hp2
  have hql := heap_lt hq2
  have X2 := Lib.hid x2
  have K2 := Lib.hid k2
  have V2 := Lib.hid hv2
  have P2 := Lib.hid hp2
  have Q2 := Lib.hid hq2
  clear hw2 k2 x2 hp2 hq2 hv2
  cases r with
  | out => exact (HR.out rfl).elim
  | bad a' er =>
    go_wp2_with fail
    refine (HCA.out _ X2.out).mono ?_
    rintro e w3 ⟨he, k3⟩
    unfold Faults at he
    subst he
    have hv3 := (k3.block _ hvl (by omega)).trans V2.out
    have hp3 := (k3.block _ hpl (by omega)).trans P2.out
    have hq3 := (k3.block _ hql (by omega)).trans Q2.out
    have K3 := Lib.hid (K2.out.trans (S' := fun k => k = w.heap.size + 1 + 1 + 1) k3 (fun i hi e => by omega))
    go_wp2
    refine leaves_cons (f := 18) (args := #[.pointer (some ⟨w.heap.size + 1, 0, none⟩), .pointer (some ⟨w.heap.size + 1 + 1, 0, none⟩), .func (.func 19) #[] #[.pointer (some ⟨w.heap.size, 0, none⟩)]]) (by simp) (by simp [go_sem]) ?_
    refine (caught_Word (w.heap.size + 1) (w.heap.size + 1 + 1) #[.pointer (some ⟨w.heap.size, 0, none⟩)] a' er [] w3 hp3 hq3 (by omega) (fun wx => wx.cell? ⟨w.heap.size, 0, none⟩ = some (.slice none 0 0) ∧ wx.cell? ⟨w.heap.size + 1, 0, none⟩ = some (.int .i64 a') ∧ wx.cell? ⟨w.heap.size + 1 + 1, 0, none⟩ = some (.int .i64 er) ∧ Kept (fun _ => False) w wx) ?_).mono ?_
    · intro wx h1 h2 h3
      have hv4 := (h3.block w.heap.size (heap_lt hv3) (by omega)).trans hv3
      refine (clear_Word _ wx hv4).mono ?_
      rintro e w' ⟨rfl, rfl⟩
      exact ⟨rfl, cell_of_one (one_setCell hv4), cell_of_one (heap_setCell_keep h1 _ _ (by simp)), cell_of_one (heap_setCell_keep h2 _ _ (by simp; omega)), kept_at (K3.out.trans h3 (fun i hi e => by omega)) 0 _ (fun h => absurd h (Nat.lt_irrefl _))⟩
    · rintro e u' w'' ⟨rfl, rfl, d0, d1, d2, K5⟩
      simp [Leaves, settle, results, Tryz.results10, go_sem, WordPost, d0, d1, d2, K5]
  | ok l a' =>
    go_wp2_with fail
    refine (HCA.out _ X2.out).mono ?_
    rintro e w3 ⟨v', rfl, o3, x3, k3⟩
    obtain ⟨ao, cao, rfl⟩ := o3.len
    have hv3 := (k3.block _ hvl (by omega)).trans V2.out
    have hp3 := (k3.block _ hpl (by omega)).trans P2.out
    have hq3 := (k3.block _ hql (by omega)).trans Q2.out
    have gv := free_of_one hv3
    have cv := cell_of_one hv3
    go_upto_region 5 with fail
    generalize hw4 : World.setCell _ _ _ = w4
    have k4 : Kept (fun k => k = w.heap.size) w3 w4 := by rw [← hw4]; exact kept_at (Kept.refl _ _) 0 _ (fun _ => rfl)
    have hv4 : w4.heap[w.heap.size]? = some (.cells #[.slice ao l.length cao] 25 (0, 0)) := by rw [← hw4]; exact one_setCell hv3
    have hp4 := (k4.block _ (heap_lt hp3) (by omega)).trans hp3
    have hq4 := (k4.block _ (heap_lt hq3) (by omega)).trans hq3
    have x4 := x3.kept k4 (by omega)
    have o4 := o3.kept k4 (fun g _ hb e => by omega)
    have K4 := Lib.hid ((K2.out.trans (S' := fun k => k = w.heap.size + 1 + 1 + 1) k3 (fun i hi e => by omega)).trans k4 (fun i hi e => by omega))
    clear hw4 k4 hv3 hp3 hq3 gv cv x3 o3 k3
    have c0 := cell_of_one hv4
    have c1 := cell_of_one hp4
    have c2 := cell_of_one hq4
    have g0 := free_of_one hv4
    have g1 := free_of_one hp4
    have g2 := free_of_one hq4
    have d1 := x4.c1
    have V4 := Lib.hid hv4
    have P4 := Lib.hid hp4
    have Q4 := Lib.hid hq4
    have O4 := Lib.hid o4
    clear hv4 hp4 hq4 o4 x4
    go_region
    all_goals go_wp2
    all_goals
      have f0 : ((((w4.setCell ⟨w.heap.size, 0, none⟩ (.slice ao l.length cao)).setCell ⟨w.heap.size + 1, 0, none⟩ (.int .i64 a')).setCell ⟨w.heap.size + 1 + 1, 0, none⟩ (.int .i64 0)).drew).heap[w.heap.size]? = some (.cells #[.slice ao l.length cao] 25 (0, 0)) := heap_setCell_keep (heap_setCell_keep (one_setCell V4.out) _ _ (by simp)) _ _ (by simp; omega)
      have f1 : ((((w4.setCell ⟨w.heap.size, 0, none⟩ (.slice ao l.length cao)).setCell ⟨w.heap.size + 1, 0, none⟩ (.int .i64 a')).setCell ⟨w.heap.size + 1 + 1, 0, none⟩ (.int .i64 0)).drew).heap[w.heap.size + 1]? = some (.cells #[.int .i64 a'] 3 (0, 0)) := heap_setCell_keep (one_setCell (heap_setCell_keep P4.out _ _ (by simp))) _ _ (by simp)
      have f2 : ((((w4.setCell ⟨w.heap.size, 0, none⟩ (.slice ao l.length cao)).setCell ⟨w.heap.size + 1, 0, none⟩ (.int .i64 a')).setCell ⟨w.heap.size + 1 + 1, 0, none⟩ (.int .i64 0)).drew).heap[w.heap.size + 1 + 1]? = some (.cells #[.int .i64 0] 26 (0, 0)) := one_setCell (heap_setCell_keep (heap_setCell_keep Q4.out _ _ (by simp; omega)) _ _ (by simp))
      have kk : Kept (fun k => k = w.heap.size ∨ k = w.heap.size + 1 ∨ k = w.heap.size + 1 + 1) w4 ((((w4.setCell ⟨w.heap.size, 0, none⟩ (.slice ao l.length cao)).setCell ⟨w.heap.size + 1, 0, none⟩ (.int .i64 a')).setCell ⟨w.heap.size + 1 + 1, 0, none⟩ (.int .i64 0)).drew) := (kept_at (kept_at (kept_at (Kept.refl _ _) 0 _ (fun _ => .inl rfl)) 0 _ (fun _ => .inr (.inl rfl))) 0 _ (fun _ => .inr (.inr rfl))).drew
      have hsz2 := K2.out.size
      have o5 : OwnsP ((((w4.setCell ⟨w.heap.size, 0, none⟩ (.slice ao l.length cao)).setCell ⟨w.heap.size + 1, 0, none⟩ (.int .i64 a')).setCell ⟨w.heap.size + 1 + 1, 0, none⟩ (.int .i64 0)).drew) w2.heap.size (.slice ao l.length cao) l := O4.out.kept kk (fun g _ hb e => by omega)
      have K5 := K4.out.trans kk (fun i hi e => by omega)
      generalize World.drew _ = w5 at f0 f1 f2 o5 K5 ⊢
      refine leaves_cons (f := 18) (args := #[.pointer (some ⟨w.heap.size + 1, 0, none⟩), .pointer (some ⟨w.heap.size + 1 + 1, 0, none⟩), .func (.func 19) #[] #[.pointer (some ⟨w.heap.size, 0, none⟩)]]) (by simp) (by simp [go_sem]) ?_
      refine (caught_idle _ _ _ _).mono ?_
      rintro e u' w'' ⟨rfl, rfl, o, rfl⟩
      have d0 := cell_of_one (heap_alloc_keep f0 o)
      have d1 := cell_of_one (heap_alloc_keep f1 o)
      have d2 := cell_of_one (heap_alloc_keep f2 o)
      have K6 := K5.alloc o
      have o6 := (o5.mono hsz2).kept ((Kept.refl (fun _ => False) w5).alloc o) (fun _ _ _ f => f)
      simp [Leaves, settle, results, Tryz.results10, go_sem, WordPost, d0, d1, d2, K6, o6]

end Go.Proofs.YtfkdeknblbmibaaGreatDoor
