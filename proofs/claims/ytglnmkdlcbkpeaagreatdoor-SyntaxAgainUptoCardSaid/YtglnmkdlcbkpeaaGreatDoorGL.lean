/-
  The laws' helpers: Rows, Like, Both, Tables.
-/
import Derived.Test.YtglnmkdlcbkpeaaGreatDoorGC
import Derived.Test.YtglnmkdlcbkpeaaGreatDoorGR
import Derived.Deep.RegionWith
import Derived.Laws.AppendOwnNone
/- formula: Rows; slices.Clone. -/
set_option linter.unusedVariables false
set_option linter.unusedSimpArgs false
namespace Go.Proofs.YtglnmkdlcbkpeaaGreatDoor
open Go.RowKit

def RowsPost (w : World) (rows : List Nd) (e : Ending) (w' : World) : Prop :=
  ∃ a c, e = .returned (.slice a rows.length c) ∧ w'.ownsRow w.heap.size 54 4 (.slice a rows.length c) rows.length (cellsOf rows) ∧ Below w.heap.size w w'
theorem cells_one (rows : List Nd) : ∀ u ∈ cellsOf rows, u.oneCell' = true := by
  intro u hu
  simp only [cellsOf, List.mem_flatMap] at hu
  obtain ⟨d, _, hd⟩ := hu
  exact node_one d u hd
theorem add_zero_off (b off j : Nat) : (⟨b, off, none⟩ : Addr).add j = ⟨b, off + j, none⟩ := by
  unfold Addr.add
  split
  · rename_i h; subst h; rfl
  · rfl

set_option maxRecDepth 100000 in
set_option maxHeartbeats 1000000 in
theorem clone_nil (w : World) : Calls Tryz.prog 28 #[.slice none 0 0] w (RowsPost w []) := by
  have q := fun (W : World) => Lib.run_eql_slice_nil (P := Tryz.prog) W 22 54 none 0 0 0 0 under_nodes
  go_enter Tryz.func28, Tryz.ntmps28
  go_wp2_with fail
  go_ret
  exact ⟨none, 0, rfl, ⟨rfl, .inl ⟨rfl, rfl⟩⟩, Below.refl _ _⟩
set_option maxRecDepth 100000 in
set_option maxHeartbeats 1000000 in
theorem clone_some (w : World) (b off c : Nat) (rows : List Nd) (hl : rows.length ≤ 3518437208883) (hc : ∀ j u, (cellsOf rows)[j]? = some u → w.cell? ⟨b, off + j, none⟩ = some u) (hb : rows.length = 0 ∨ b < w.heap.size) :
    Calls Tryz.prog 28 #[.slice (some ⟨b, off, none⟩) rows.length c] w (RowsPost w rows) := by
  obtain ⟨i0, hi, hz0, hz1, hz2⟩ := info_parts info_node
  have hcl := cellsOf_length rows
  have Hc := Lib.hid hc
  clear hc
  have q := fun (W : World) => Lib.run_eql_slice_nil (P := Tryz.prog) W 22 54 (some ⟨b, off, none⟩) rows.length c 0 0 under_nodes
  go_enter Tryz.func28, Tryz.ntmps28
  have hown : (w.alloc (.cells #[] 54)).ownsRow w.heap.size 54 4 (.slice (some ⟨w.heap.size, 0, none⟩) 0 0) 0 [] := World.ownsRow_made w #[] 0 (Nat.le_refl _) (by decide) rfl
  go_wp2_with (at_builtin; refine wpList_append_own _ rfl _ _ 22 rfl w.heap.size 54 i0 _ 4 40 under_nodes hi hz0 hz1 hz2 rfl (by decide) _ _ _ rfl hown ⟨b, off, none⟩ rows.length c (cellsOf rows) rfl hcl ?c1 ?c2 ?c3 ?c4 ?c5 ?_)
  case c1 =>
    intro j u hj
    rw [add_zero_off]
    have hb2 : b < w.heap.size := by
      rcases hb with h | h
      · have := (List.getElem?_eq_some_iff.1 hj).1
        omega
      · exact h
    exact (((Below.refl _ _).alloc (Nat.le_refl w.heap.size) _).cell (p := ⟨b, off + j, none⟩) hb2).trans (Hc.out j u hj)
  case c2 => exact cells_one rows
  case c3 => unfold maxLen; omega
  case c4 => omega
  case c5 => simp
  intro v' w2 hown' hgrow _
  obtain ⟨a', c', rfl⟩ : ∃ a' c', v' = .slice a' rows.length c' := by
    rcases hown'.2 with ⟨hv, h0⟩ | ⟨g, cap, cur, hv, _⟩
    · have : rows.length = 0 := by omega
      exact ⟨none, 0, by rw [hv, this]⟩
    · exact ⟨_, _, hv⟩
  have Hfin : Hid (RowsPost w rows (.returned (.slice a' rows.length c')) w2) := Lib.hid (by
    refine ⟨a', c', rfl, by simpa using hown', ?_⟩
    exact ((Below.refl _ _).alloc (Nat.le_refl w.heap.size) _).grown hgrow (by simp) (fun k hk => by simp [Value.ownBlock] at hk; omega))
  clear hown hown' hgrow q
  go_wp2_with fail
  go_ret
  exact Hfin.out

theorem rows_tab (w : World) (p : Nat) (rows : List Nd) (F : Nat → Prop) (hT : Tab w p rows F) (hl : rows.length ≤ 1024) :
    Calls Tryz.prog 11 #[.pointer (some ⟨p, 0, none⟩)] w (RowsPost w rows) := by
  obtain ⟨m, a, c, es, cl, h1, h2, h3, h4, h5, h6, h7⟩ := hT
  have c0 : w.cell? ⟨p, 0, none⟩ = some (.slice a rows.length c) := (blk_cell h1 0).trans rfl
  have c1 : w.cell? ⟨p, 1, none⟩ = some (.map (some m)) := (blk_cell h1 1).trans rfl
  have HC : Hid (Calls Tryz.prog 28 #[.slice a rows.length c] w (RowsPost w rows)) := Lib.hid (by
    rcases h2.2 with ⟨hv, h0⟩ | ⟨g, cap, cur, hv, hg, hh, _⟩
    · injection hv with e1 e2 e3
      have : rows = [] := List.length_eq_zero_iff.1 e2
      subst this
      subst e1
      subst e3
      exact clone_nil w
    · injection hv with e1 e2 e3
      subst e1
      refine clone_some w g 0 c rows (by omega) (fun j u hj => ?_) (.inr (blk_lt hh))
      rw [Nat.zero_add]
      exact (h2.cells (g := g) rfl j u hj |> fun h => by rwa [add_zero_off, Nat.zero_add] at h))
  clear h1 h2 h3 h4 h7
  go_enter Tryz.func11, Tryz.ntmps11
  go_wp2_with (go_at_call 27; refine (alive_some p m _ c1).mono ?_; rintro e w' ⟨rfl, rfl⟩)
  refine HC.out.mono ?_
  rintro e w1 ⟨a', c', rfl, ho, hb⟩
  have Hfin : Hid (RowsPost w rows (.returned (.slice a' rows.length c')) w1) := Lib.hid ⟨a', c', rfl, ho, hb⟩
  clear ho hb
  go_wp2_with fail
  go_ret
  exact Hfin.out
end Go.Proofs.YtglnmkdlcbkpeaaGreatDoor
/- dictumlaw03.Like, dictumlaw04.num. -/
set_option linter.unusedVariables false
set_option linter.unusedSimpArgs false
namespace Go.Proofs.YtglnmkdlcbkpeaaGreatDoor
open Go.RowKit

theorem num_any (w : World) (k : Int) : Calls Tryz.prog 8 #[.int .i64 k] w fun e w' => e = .returned (.int .i64 k) ∧ w = w' := by
  go_enter Tryz.func8, Tryz.ntmps8
  go_wp2_with fail
  go_ret
  exact ⟨rfl, rfl⟩

theorem same_true (w : World) (a a' : Option Addr) (c c' : Nat) (xs : List Nd) (hX : Sl w a xs) (hY : Sl w a' xs) :
    Calls Tryz.prog 13 #[.slice a xs.length c, .slice a' xs.length c'] w fun e w' => e = .returned (.bool true) ∧ Below w.heap.size w w' := by
  refine (same03 w a a' c c' xs xs hX hY).mono ?_
  rintro e w' ⟨rfl, q, rfl⟩
  exact ⟨by simp, below_drewN (Below.refl _ _) q⟩

set_option maxRecDepth 100000 in
set_option maxHeartbeats 2000000 in
theorem like_tab (w : World) (p q : Nat) (rows : List Nd) (F G : Nat → Prop) (hT : Tab w p rows F) (hR : RT w q rows G) (hl : rows.length ≤ 1024) :
    Calls Tryz.prog 9 #[.pointer (some ⟨p, 0, none⟩), .pointer (some ⟨q, 0, none⟩)] w fun e w' => e = .returned (.bool true) ∧ Below w.heap.size w w' := by
  obtain ⟨ar, cr, h1, h2, _⟩ := id hR
  have c0 : w.cell? ⟨q, 0, none⟩ = some (.slice ar rows.length cr) := (blk_cell h1 0).trans rfl
  have hq := blk_lt h1
  have Sr := Lib.hid (Sl.of_own h2 (by omega))
  have HT := Lib.hid hT
  have Hrows : Hid (∀ W : World, Below w.heap.size w W → Calls Tryz.prog 11 #[.pointer (some ⟨p, 0, none⟩)] W (RowsPost W rows)) := Lib.hid fun W hb => rows_tab W p rows F (hT.below hb) hl
  have Hlen : Hid (∀ W : World, Below w.heap.size w W → Calls Tryz.prog 14 #[.pointer (some ⟨p, 0, none⟩)] W fun e w' => e = .returned (.int .i64 rows.length) ∧ W = w') := Lib.hid fun W hb => len_tab W p rows F (hT.below hb)
  have HB0 := Lib.hid ((Below.refl w.heap.size w).drew)
  clear hT hR h1 h2
  go_enter Tryz.func9, Tryz.ntmps9
  go_wp2_with fail
  go_region_with ((first
    | (go_at_call 11; (with_reducible refine (Hrows.out _ ?_).mono ?_); exact HB0.out; rintro e w2 ⟨a2, c2, rfl, ho, hb⟩; have HB2 := Lib.hid (HB0.out.trans hb); have S2 := Lib.hid (Sl.of_own ho (by omega)); have d0 := (hb.cell (p := ⟨q, 0, none⟩) (by exact hq)).trans (show (World.drew w).cell? ⟨q, 0, none⟩ = _ from c0); have hq2 : q < w2.heap.size := Nat.lt_of_lt_of_le hq HB2.out.size; clear ho hb)
    | (go_at_call 13; (with_reducible refine (same_true _ _ _ _ _ rows ?_ ?_).mono ?_); exact S2.out; exact Sr.out.below HB2.out; rintro e w3 ⟨rfl, hb⟩; have HB3 := Lib.hid (HB2.out.trans (hb.mono HB2.out.size)); have d3 := (hb.cell (p := ⟨q, 0, none⟩) (by exact hq2)).trans d0; clear hb)
    | (go_at_call 14; (with_reducible refine (Hlen.out _ ?_).mono ?_); exact HB3.out; rintro e w4 ⟨rfl, rfl⟩)))
  all_goals
    go_wp2_with fail
    go_ret
    exact ⟨rfl, HB3.out⟩
end Go.Proofs.YtglnmkdlcbkpeaaGreatDoor
/- dictumlaw03.Both, dictumlaw04.Tables. -/
set_option linter.unusedVariables false
set_option linter.unusedSimpArgs false
namespace Go.Proofs.YtglnmkdlcbkpeaaGreatDoor
open Go.RowKit

/-- Two tables of the same rows, with no block of both. -/
def Two (w w' : World) (p q : Nat) (rs : List Nd) : Prop :=
  ∃ F G : Nat → Prop, Tab w' p rs F ∧ RT w' q rs G ∧ (∀ k, F k → G k → False) ∧ (∀ k, F k → w.heap.size ≤ k) ∧ (∀ k, G k → w.heap.size ≤ k) ∧ okRows rs ∧ rs.length ≤ 1024 ∧ Below w.heap.size w w'
def BothPost (w : World) (rows : List Nd) (e : Ending) (w' : World) : Prop :=
  (∃ p q, e = .returned (.tuple #[.pointer (some ⟨p, 0, none⟩), .pointer (some ⟨q, 0, none⟩), .bool true]) ∧ Two w w' p q rows) ∨
  (e = .returned (.tuple #[.pointer none, .pointer none, .bool false]) ∧ Below w.heap.size w w')
def TablesPost (w : World) (e : Ending) (w' : World) : Prop :=
  ∃ p q rs, e = .returned (.tuple #[.pointer (some ⟨p, 0, none⟩), .pointer (some ⟨q, 0, none⟩)]) ∧ Two w w' p q rs

theorem below_alloc3 {w w1 : World} (h : Below w.heap.size w w1) (o : Obj) : Below w.heap.size w (w1.alloc o) := h.trans (((Below.refl _ _).alloc (Nat.le_refl _) o).mono h.size)
def OwnPost (w : World) (rows : List Nd) (a : Option Addr) (c : Nat) (w' : World) : Prop := w'.ownsRow w.heap.size 54 4 (.slice a rows.length c) rows.length (cellsOf rows) ∧ Below w.heap.size w w'
set_option maxRecDepth 100000 in
set_option maxHeartbeats 2000000 in
theorem both_any (w : World) (a : Option Addr) (c : Nat) (rows : List Nd) (hS : Sl w a rows) (hnm : ∀ d ∈ rows, d.s.size ≤ 140737488355328) (hnil : a = none → rows = [] ∧ c = 0) :
    Calls Tryz.prog 15 #[.slice a rows.length c] w (BothPost w rows) := by
  obtain ⟨i0, hi, hz0, hz1, hz2⟩ := info_parts info_node
  have hcl := cellsOf_length rows
  have HS := Lib.hid hS
  have Hnm := Lib.hid hnm
  have hl0 := hS.1
  have hown : (w.alloc (.cells #[] 54)).ownsRow w.heap.size 54 4 (.slice (some ⟨w.heap.size, 0, none⟩) 0 0) 0 [] := World.ownsRow_made w #[] 0 (Nat.le_refl _) (by decide) rfl
  have hb0 : Below w.heap.size w (w.alloc (.cells #[] 54)) := (Below.refl _ _).alloc (Nat.le_refl w.heap.size) _
  have Hsrc := Lib.hid hS.2
  have HO := Lib.hid hown
  have HB0 := Lib.hid hb0
  clear hS hnm hb0
  go_enter Tryz.func15, Tryz.ntmps15
  go_upto_region 1 with fail
  go_cut [5] (fun v wx => ∃ a' c', v = .slice a' rows.length c' ∧ OwnPost w rows a' c' wx)
  case first =>
    cases a with
    | none =>
      obtain ⟨rfl, rfl⟩ := hnil rfl
      go_wp2_with (at_builtin; (with_reducible refine wpList_append_own_none (P := Tryz.prog) rfl _ _ 22 rfl w.heap.size 54 i0 4 under_nodes hi _ 0 [] rfl HO.out rfl ?_))
      go_meet
      exact ⟨_, _, rfl, HO.out, HB0.out⟩
    | some ad =>
      go_wp2_with (at_builtin; refine wpList_append_own _ rfl _ _ 22 rfl w.heap.size 54 i0 _ 4 40 under_nodes hi hz0 hz1 hz2 rfl (by decide) _ _ _ rfl hown ad rows.length c (cellsOf rows) rfl hcl ?c1 ?c2 ?c3 ?c4 ?c5 ?_)
      case c1 =>
        intro j u hj
        have hn : 0 < rows.length := by have := (List.getElem?_eq_some_iff.1 hj).1; omega
        obtain ⟨b, off, e, hb, hc⟩ := Hsrc.out hn
        cases e
        rw [add_zero_off]
        exact (HB0.out.cell (p := ⟨b, off + j, none⟩) hb).trans (hc j u hj)
      case c2 => exact cells_one rows
      case c3 => unfold maxLen; omega
      case c4 => omega
      case c5 => simp
      intro v' w2 hown' hgrow _
      obtain ⟨a', c', rfl⟩ : ∃ a' c', v' = .slice a' rows.length c' := by
        rcases hown'.2 with ⟨hv, h0⟩ | ⟨g, cap, cur, hv, _⟩
        · have : rows.length = 0 := by omega
          exact ⟨none, 0, by rw [hv, this]⟩
        · exact ⟨_, _, hv⟩
      have Hfin : Hid (OwnPost w rows a' c' w2) := Lib.hid ⟨by simpa using hown', HB0.out.grown hgrow (by simp) (fun k hk => by simp [Value.ownBlock] at hk; omega)⟩
      clear hown hown' hgrow
      go_wp2_with fail
      go_meet
      exact ⟨_, _, rfl, Hfin.out⟩
  case rest =>
    obtain ⟨a', c', rfl, ho, hb⟩ := hcut

    have HSo := Lib.hid (Sl.of_own ho hl0)
    have HB1 := Lib.hid hb
    have hs1 := hb.size
    clear ho hb hown
    go_wp2_with fail
    refine (from03 _ a c rows (HS.out.below HB1.out) Hnm.out).mono ?_
    intro e w2 hp
    rcases hp with ⟨hok, hl, rfl, hR, hb2⟩ | ⟨hno, x, hx, rfl, hb2⟩
    · have HB2 := Lib.hid (HB1.out.trans (hb2.mono hs1))
      have HS2 := Lib.hid (HSo.out.below hb2)
      have hs2 := hb2.size
      have HR := Lib.hid hR.bound
      have Hok := Lib.hid hok
      clear hR hb2 hok
      go_wp2_with fail
      refine (fromF w2 a' c' rows HS2.out Hnm.out Hok.out hl).mono ?_
      rintro e w3 ⟨p, hp, rfl, hT, hb3⟩
      have Hfin : Hid (BothPost w rows (.returned (.tuple #[.pointer (some ⟨p, 0, none⟩), .pointer (some ⟨wc.heap.size, 0, none⟩), .bool true])) w3) :=
        Lib.hid (.inl ⟨p, _, rfl, _, _, hT, HR.out.below hb3, fun k h1 h2 => by have := h2.2; omega, fun k h1 => by omega, fun k h1 => by have := h1.1; omega, Hok.out, hl, HB2.out.trans (hb3.mono HB2.out.size)⟩)
      clear hT hb3
      go_wp2_with fail
      go_ret3
      exact Hfin.out
    · have HB2 := Lib.hid (HB1.out.trans (hb2.mono hs1))
      have hx1 : (x != 0) = true := bne_iff_ne.2 hx
      clear hb2
      go_wp2_with fail
      go_ret3
      exact .inr ⟨rfl, HB2.out⟩

theorem ok_nil : okRows [] := fun i h => by simp at h
set_option maxRecDepth 100000 in
set_option maxHeartbeats 2000000 in
theorem tables_any (w : World) (a : Option Addr) (c : Nat) (rows : List Nd) (hS : Sl w a rows) (hnm : ∀ d ∈ rows, d.s.size ≤ 140737488355328) (hnil : a = none → rows = [] ∧ c = 0) :
    Calls Tryz.prog 5 #[.slice a rows.length c] w (TablesPost w) := by
  have HC := Lib.hid (both_any w a c rows hS hnm hnil)
  clear hS hnm hnil
  go_enter Tryz.func5, Tryz.ntmps5
  go_wp2_with fail
  refine HC.out.mono ?_
  intro e w1 hp
  rcases hp with ⟨p, q, rfl, h⟩ | ⟨rfl, hb⟩
  · have Hfin : Hid (TablesPost w (.returned (.tuple #[.pointer (some ⟨p, 0, none⟩), .pointer (some ⟨q, 0, none⟩)])) w1) := Lib.hid ⟨p, q, rows, rfl, h⟩
    clear h
    go_wp2_with fail
    go_ret2
    exact Hfin.out
  · have HB := Lib.hid hb
    have hs := hb.size
    clear hb
    go_wp2_with fail
    refine (new_any w1).mono ?_
    rintro e w2 ⟨rfl, hT, hb2⟩
    have HT := Lib.hid hT.bound
    have HB2 := Lib.hid (HB.out.trans (hb2.mono hs))
    have hs2 := hb2.size
    clear hT hb2
    have Hfin : Hid (TablesPost w (.returned (.tuple #[.pointer (some ⟨w1.heap.size + 1, 0, none⟩), .pointer (some ⟨w2.heap.size, 0, none⟩)])) (w2.alloc (.cells #[.slice none 0 0] 50))) :=
      Lib.hid ⟨_, _, [], rfl, _, fun k => k = w2.heap.size, HT.out.below ((Below.refl _ _).alloc (Nat.le_refl _) _), ⟨none, 0, blk_new w2 _, ⟨rfl, .inl ⟨rfl, rfl⟩⟩, rfl, fun k hk => by simp [Value.ownBlock] at hk⟩, fun k h1 h2 => by have := h1.2; omega, fun k h1 => by have := h1.1; omega, fun k h1 => by omega, ok_nil, by simp, below_alloc3 HB2.out _⟩
    go_wp2_with fail
    go_ret2
    exact Hfin.out
end Go.Proofs.YtglnmkdlcbkpeaaGreatDoor
