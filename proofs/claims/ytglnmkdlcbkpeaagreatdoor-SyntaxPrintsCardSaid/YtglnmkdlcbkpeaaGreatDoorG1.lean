/-
  SyntaxPrints: every table of rows, every number: Print answers what the reference's Print answers, and the table stays; the tied card, under the row's own conditions (the listed variables of Go's library are tied to the program's text).
-/
import Derived.Test.YtglnmkdlcbkpeaaGreatDoorGH
import Derived.Test.YtglnmkdlcbkpeaaGreatDoorGZ
import Derived.Test.YtglnmkdlcbkpeaaGreatDoorTie
import Derived.Test.YtglnmkdlcbkpeaaGreatDoorCards
import Derived.SevenTiedAt
/- dictumlaw04.SyntaxPrints. -/
set_option linter.unusedVariables false
set_option linter.unusedSimpArgs false
namespace Go.Proofs.YtglnmkdlcbkpeaaGreatDoor
open Go.RowKit

set_option maxRecDepth 100000 in
set_option maxHeartbeats 4000000 in
theorem prints_any (w : World) (a : Option Addr) (c : Nat) (rows : List Nd) (id : Int) (hS : Sl w a rows) (hnm : ∀ d ∈ rows, d.s.size ≤ 140737488355328) (hnil : a = none → rows = [] ∧ c = 0)
    (hT : Lib.Utf8Tabs 0 1 w) (hg0 : 0 < w.heap.size) (hg1 : 1 < w.heap.size) :
    Calls Tryz.prog 3 #[.slice a rows.length c, .int .i64 id] w fun e w' => e = .returned (.bool true) ∧ Below w.heap.size w w' := by
  have HT := Lib.hid hT
  have HC := Lib.hid (tables_any w a c rows hS hnm hnil)
  clear hT hS hnm hnil
  go_enter Tryz.func3, Tryz.ntmps3
  go_wp2_with fail
  refine HC.out.mono ?_
  rintro e w1 ⟨p, q, rs, rfl, F, G, hF, hG, _, _, _, hok, hl, hb1⟩
  have HF := Lib.hid hF
  have HG := Lib.hid hG
  have Hok := Lib.hid hok
  have HB1 := Lib.hid hb1
  have hs1 := hb1.size
  clear hF hG hok hb1 HC
  go_wp2_with fail
  refine (print_tab w1 p rs F id HF.out hl (nodup_of_ok Hok.out) (wf_of_ok Hok.out) (sz_of_ok Hok.out)).mono ?_
  rintro e w2 ⟨rfl, hb2⟩
  have HB2 := Lib.hid hb2
  have hs2 := hb2.size
  clear hb2
  go_wp2_with fail
  refine (print04 w2 q rs G id (HG.out.below HB2.out) hl (wf_of_ok Hok.out) (kd_of_ok Hok.out) (sz_of_ok Hok.out)).mono ?_
  rintro e w3 ⟨rfl, hb3⟩
  have HB3 := Lib.hid (HB2.out.trans (hb3.mono hs2))
  have hs3 := HB3.out.size
  have HB3w := Lib.hid (HB1.out.trans (HB3.out.mono hs1))
  clear hb3
  generalize printR rs id = x at *
  obtain ⟨s, k⟩ := x
  simp only at *
  generalize (⟨s.toArray⟩ : ByteArray) = S at *
  go_wp2_with (go_at_call 8; (with_reducible refine (num_any _ _).mono ?_); rintro e w9 ⟨rfl, rfl⟩)
  refine (like_tab w3 p q rs F G (HF.out.below HB3.out) (HG.out.below HB3.out) hl).mono ?_
  rintro e w4 ⟨rfl, hb4⟩
  have HB4 := Lib.hid (HB3w.out.trans (hb4.mono HB3w.out.size))
  have hs4 := HB4.out.size
  clear hb4
  go_wp2_with fail
  refine (heads_any w4 (Utf8Tabs_below HT.out HB4.out) (by omega) (by omega)).mono ?_
  rintro e w5 ⟨rfl, hb5⟩
  have HB5 := Lib.hid (HB4.out.trans (hb5.mono hs4))
  clear hb5
  go_wp2_with fail
  go_ret
  exact ⟨rfl, HB5.out⟩
end Go.Proofs.YtglnmkdlcbkpeaaGreatDoor
/- SyntaxPrints: the row and the tied card. -/
set_option linter.unusedVariables false
set_option linter.unusedSimpArgs false
namespace Go.Proofs.YtglnmkdlcbkpeaaGreatDoor
open Go.ChangeShapes Go.WideShapes Go.ChangeAt Go.RowKit Go.Deep

set_option maxRecDepth 100000 in
theorem prints_lifted (os : Os) (started : os.Started) (H : Type) (enc : TypeId × Value → H) :
    ReturnsInHanded {} Tryz.checked os 3 .any (fun w args => (Rows.syntaxPrintsSpec.pre enc Tryz.prog Tryz.f3 [] false w args ∧ laidMetH Tryz.prog Rows.syntaxPrintsRow.laid w) ∧ sizedMet enc Tryz.prog Tryz.f3 (OpenSpec.ofChange Rows.syntaxPrintsSpec) false w args)
      (Rows.syntaxPrintsSpec.post enc Tryz.prog Tryz.f3 false true false false) := by
  refine returnsInHanded_of_change_and (C := Tryz.checked) (X := fun w _ => laidMetH Tryz.prog Rows.syntaxPrintsRow.laid w) (fun _ _ _ hh h => h.of_heap hh) own_knob started (by kernel_rfl) Tryz.func3
    (ChangeSpec.witness_shaped (enc := enc) (C := Tryz.checked) (os := os) (X := fun w _ => laidMetH Tryz.prog Rows.syntaxPrintsRow.laid w) false (World.laidAll Tryz.prog os Rows.syntaxPrintsRow.laid) #[.slice none 0 0, .int .i64 0] 8 (World.laidAll_os _ _ _)
      (World.shaped_of_ZipB (by kernel_rfl) (by kernel_rfl)) (by kernel_rfl) (by kernel_rfl) (by kernel_rfl)
      (by rw [MakeChecks.laidMetH_plain _ _ _ (by kernel_rfl)]; exact laidMet_laidAll _ (by kernel_rfl) (by kernel_rfl))) ?_
  intro W base args ds gs before hval0 hW _ hsz0 hL _
  have hsz : (DataW.weightsEach Tryz.prog (Tryz.f3.params.toList ++ Rows.syntaxPrintsSpec.plain.varTypes Tryz.prog) (ds ++ gs)).all (· ≤ reachBytes) = true := hsz0
  have hval : ∀ (j : Nat) t v, Tryz.f3.params[j]? = some t → args[j]? = some v → Value.okWide Tryz.prog W .any base t v := hval0
  have hW' := hW
  obtain ⟨p, q, hA0, hV, rfl, _, _⟩ := hW
  have hA : DataW.TrodAll enc Tryz.prog W 0 (fun _ => true) true Tryz.f3.params.toList args.toList ds p := hA0
  rw [Tryz.params3] at hA hval hsz
  obtain ⟨v0, v1, d0, d1, p0, p1, rfl, rfl, rfl, h0, h1⟩ := trodAll_two hA
  obtain ⟨rfl, rfl⟩ := trodVars_none hV
  obtain ⟨id, rfl, rfl, rfl, wn⟩ := open_int Tryz.underlying3 (hval 1 3 v1 rfl rfl) h1
  obtain ⟨a0, len, cap, rfl⟩ := okWide_slice Tryz.underlying22 (hval 0 22 v0 rfl rfl)
  obtain ⟨rows, rfl, hS, hnm, hnil⟩ := open_nodes h0 hsz
  simp only [List.append_nil] at hW'
  have hlt : ∀ x ∈ p0, x.block < W.heap.size := fun x hx => by simpa using hW'.lt x hx
  have hargs : ∀ (W' : World), Below W.heap.size W W' → DataW.TrodAll enc Tryz.prog W' 0 (fun b => decide (b < W.heap.size)) true [22, 3] [.slice a0 rows.length cap, .int .i64 id] [d0, .lit (.int .i64 id)] (p0 ++ []) :=
    fun W' hn => trodAll_mk2 (Below.trod laid_out (by kernel_rfl) (of_decide_eq_true (by kernel_rfl)) h0 hn hlt) (shut_int Tryz.underlying3 wn)
  rw [MakeChecks.laidMetH_plain _ _ _ (by kernel_rfl)] at hL
  have hT := tabs_of_laid hL (by simp [Rows.syntaxPrintsRow]) (by simp [Rows.syntaxPrintsRow])
  refine (prints_any W a0 cap rows id hS hnm hnil hT (tabs_lt hT).1 (tabs_lt hT).2).mono fun e W' ⟨he, hb⟩ => ?_
  subst he
  exact ⟨_, rfl, _, _, _, [], p0 ++ [], [], hW', trodAll_mk1 (shut_bool Tryz.underlying4 _), hargs W' hb, rfl, hb.frame _, fun h => by cases h⟩

theorem prints_row : Rows.SyntaxPrintsSaid :=
  OpenClaim.holds_of_wide 3 Tryz.f3 rfl rfl rfl rfl rfl rfl rfl ⟨rfl, rfl, rfl, rfl, rfl⟩ rfl rfl rfl rfl rfl (by kernel_rfl) Tryz.func3 (by kernel_rfl)
    (of_decide_eq_true (by kernel_rfl)) (by unfold Func.isWrapper; first | (rw [if_pos (by decide +kernel)]; kernel_rfl) | (rw [if_neg (by decide +kernel)]; exact ⟨rfl, rfl⟩))
    (fun os started H enc _ => prints_lifted os started H enc)

theorem prints_card : Rows.SyntaxPrintsCardSaid :=
  Claim7.holds_tied_plain_at .later [] [.data, .data, .data, .data, .sentinel, .sentinel, .pinned] true (true, "846405aa53f98d1efd1fc45fa9740ee7aed952a18d0e9d6f31757ae4ab0f7b47") true
    prints_row (fun _ h => by cases h) (by kernel_rfl) (fun _ h => by cases h) syntaxPrints_row_tie rfl ⟨rfl, rfl⟩ (by kernel_rfl) rfl
    (fun f fn hf hfn => by
      obtain rfl : f = 3 := Option.some.inj ((show Tryz.prog.funcNamed "dictum/dictumlaw04.SyntaxPrints" = some 3 by kernel_rfl).symm.trans hf) |>.symm
      obtain rfl : fn = Tryz.f3 := (Option.some.inj (Tryz.func3.symm.trans hfn)).symm
      exact ⟨by kernel_rfl, fun j t ht => by
        rw [Tryz.params3] at ht
        have hm : t ∈ [22, 3] := by simpa using Array.mem_of_getElem? ht
        have hall : ([22, 3].all fun u => !Tryz.prog.wantsStandIn u) = true := by kernel_rfl
        exact (show Tryz.prog.wantsStandIn t = false by simpa using List.all_eq_true.1 hall t hm)⟩)
    (by kernel_rfl)
#print axioms prints_card
end Go.Proofs.YtglnmkdlcbkpeaaGreatDoor
