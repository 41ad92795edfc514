/-
  The reference's Widths and Print.
-/
import Derived.Test.YtglnmkdlcbkpeaaGreatDoorGX
import Derived.Test.YtglnmkdlcbkpeaaGreatDoorGW
/- The reference's Print: plain laws of Widths. -/
set_option linter.unusedVariables false
set_option linter.unusedSimpArgs false
namespace Go.Proofs.YtglnmkdlcbkpeaaGreatDoor
open Go.RowKit

set_option maxRecDepth 100000 in
/-- What the reference's widths are, by a row's kind. -/
theorem wd_cases {rows : List Nd} (hw : wfR rows) (i : Nat) (hi : i < rows.length) (d : Nd) (hd : rows[i] = d) (hk : d.k = 1 ∨ d.k = 2 ∨ d.k = 3 ∨ d.k = 4 ∨ d.k = 5) :
    (d.k = 1 ∧ wd rows i = min d.s.size 65537) ∨ (d.k = 2 ∧ wd rows i = 5) ∨
    (d.k = 5 ∧ lvR rows i = 4 ∧ wd rows i = 4) ∨
    (d.k = 5 ∧ lvR rows i = 3 ∧ (∃ x : Nat, d.l = x ∧ x < i) ∧ wd rows i = min (1 + wd rows d.l + rd2 rows d.l 3) 65537) ∨
    (lvR rows i < 3 ∧ (∃ x y : Nat, d.l = x ∧ d.r = y ∧ x < i ∧ y < i) ∧ ((d.k = 3 ∧ wd rows i = min (wd rows d.l + rd2 rows d.l 2 + 3 + wd rows d.r + rd2 rows d.r 3) 65537) ∨ (d.k = 4 ∧ wd rows i = min (wd rows d.l + rd2 rows d.l 1 + 3 + wd rows d.r + rd2 rows d.r 2) 65537) ∨ (d.k = 5 ∧ wd rows i = min (wd rows d.l + rd2 rows d.l 1 + 3 + wd rows d.r + rd2 rows d.r 0 + 1) 65537))) := by
  have hb := wd_eq hw i (by omega) (by omega)
  have hwi := hw i hi
  have hv : lvR rows i = if d.k = 3 then 2 else if d.k = 4 then 1 else if d.k = 5 then (if isBot rows d.r then (if isBot rows d.l then 4 else 3) else 0) else 4 := by rw [lvR, nodeAt_get rows i hi, hd]
  rw [nodeAt_get rows i hi, hd] at hb
  rw [hd] at hwi
  unfold pcs wsum at hb
  have z1 : tAnd.size = 3 := rfl
  have z2 : tOr.size = 3 := rfl
  have z3 : tImp.size = 4 := rfl
  have z4 : sTrue.size = 4 := rfl
  have z5 : sFalse.size = 5 := rfl
  have z6 : sNot.size = 1 := rfl
  rcases hk with h | h | h | h | h
  · exact .inl ⟨h, by simpa [h] using hb⟩
  · exact .inr (.inl ⟨h, by simpa [h, z5] using hb⟩)
  · obtain ⟨a1, a2, a3, a4⟩ := hwi (.inl h)
    refine .inr (.inr (.inr (.inr ⟨by rw [hv]; simp [h], ⟨d.l.toNat, d.r.toNat, by omega, by omega, by omega, by omega⟩, .inl ⟨h, ?_⟩⟩)))
    simp [h, z1] at hb
    omega
  · obtain ⟨a1, a2, a3, a4⟩ := hwi (.inr (.inl h))
    refine .inr (.inr (.inr (.inr ⟨by rw [hv]; simp [h], ⟨d.l.toNat, d.r.toNat, by omega, by omega, by omega, by omega⟩, .inr (.inl ⟨h, ?_⟩)⟩)))
    simp [h, z2] at hb
    omega
  · obtain ⟨a1, a2, a3, a4⟩ := hwi (.inr (.inr h))
    cases hr : isBot rows d.r with
    | true =>
      cases hl : isBot rows d.l with
      | true => exact .inr (.inr (.inl ⟨h, by rw [hv]; simp [h, hr, hl], by simpa [h, hr, hl, z4] using hb⟩))
      | false =>
        refine .inr (.inr (.inr (.inl ⟨h, by rw [hv]; simp [h, hr, hl], ⟨d.l.toNat, by omega, by omega⟩, ?_⟩)))
        simp [h, hr, hl, z6] at hb
        omega
    | false =>
      refine .inr (.inr (.inr (.inr ⟨by rw [hv]; simp [h, hr], ⟨d.l.toNat, d.r.toNat, by omega, by omega, by omega, by omega⟩, .inr (.inr ⟨h, ?_⟩)⟩)))
      simp [h, hr, z3] at hb
      omega

/-- A row of whole numbers of which the first i tell widths. -/
def WA (rows : List Nd) (i : Nat) (arr : Array Value) : Prop := arr.size = rows.length ∧ (∀ j, j < i → arr[j]? = some (.int .i64 (wd rows j))) ∧ (∀ j, j < rows.length → ∃ x : Int, arr[j]? = some (.int .i64 x))
theorem WA.set {rows : List Nd} {i : Nat} {arr : Array Value} (h : WA rows i arr) (hi : i < rows.length) (v : Int) : WA rows i (arr.setIfInBounds i (.int .i64 v)) := by
  obtain ⟨h1, h2, h3⟩ := h
  refine ⟨by simpa using h1, fun j hj => ?_, fun j hj => ?_⟩
  · rw [Array.getElem?_setIfInBounds_ne (by omega)]
    exact h2 j hj
  · by_cases e : i = j
    · subst e
      exact ⟨v, by rw [Array.getElem?_setIfInBounds_self_of_lt (by omega)]⟩
    · rw [Array.getElem?_setIfInBounds_ne e]
      exact h3 j hj
theorem WA.next {rows : List Nd} {i : Nat} {arr : Array Value} (h : WA rows i arr) (hi : i < rows.length) (hv : arr[i]? = some (.int .i64 (wd rows i))) : WA rows (i + 1) arr := by
  obtain ⟨h1, h2, h3⟩ := h
  refine ⟨h1, fun j hj => ?_, h3⟩
  by_cases e : j = i
  · subst e; exact hv
  · exact h2 j (by omega)
theorem WA.setnext {rows : List Nd} {i : Nat} {arr : Array Value} (h : WA rows i arr) (hi : i < rows.length) {v : Int} (hv : v = wd rows i) : WA rows (i + 1) (arr.setIfInBounds i (.int .i64 v)) := by
  subst hv
  exact (h.set hi _).next hi (by rw [Array.getElem?_setIfInBounds_self_of_lt (by have := h.1; omega)])
end Go.Proofs.YtglnmkdlcbkpeaaGreatDoor
/- The reference's Print: Widths. -/
set_option linter.unusedVariables false
set_option linter.unusedSimpArgs false
namespace Go.Proofs.YtglnmkdlcbkpeaaGreatDoor
open Go.RowKit

def WsPost (w : World) (rows : List Nd) (e : Ending) (w' : World) : Prop :=
  ∃ g arr, e = .returned (.slice (some ⟨g, 0, none⟩) rows.length rows.length) ∧ w'.heap[g]? = some (.cells arr 3 (0, 0)) ∧ WA rows rows.length arr ∧ Below w.heap.size w w'
theorem info_int : (Tryz.prog.info? 3).map (fun i => (i.zero, i.size, i.bytes)) = some (some (.int .i64 0), 1, 8) := by kernel_rfl
theorem under_ints : Tryz.prog.underlying 66 = some (.slice 3) := by kernel_rfl
theorem wa_made (rows : List Nd) : WA rows 0 (madeCells #[.int .i64 0] rows.length) := by
  refine ⟨size_madeCells _ _, fun j hj => by omega, fun j hj => ⟨0, ?_⟩⟩
  rw [← Array.getElem?_toList, toList_madeCells_one]
  simp [hj]
theorem below_set {w w1 : World} (h : Below w.heap.size w w1) (i : Nat) (v : Value) : Below w.heap.size w (w1.setCell ⟨w.heap.size, i, none⟩ v) := h.setCell (p := ⟨w.heap.size, i, none⟩) (Nat.le_refl _) v
theorem set2 (arr : Array Value) (i : Nat) (u v : Value) : (arr.setIfInBounds i u).setIfInBounds i v = arr.setIfInBounds i v := by simp

set_option maxRecDepth 100000 in
set_option maxHeartbeats 8000000 in
theorem widths04 (w : World) (p : Nat) (rows : List Nd) (F : Nat → Prop) (hT : RT w p rows F) (hl : rows.length ≤ 1024) (hn0 : 0 < rows.length) (hwf : wfR rows) (hkd : kdR rows) (hsz : szR rows) :
    Calls Tryz.prog 23 #[.pointer (some ⟨p, 0, none⟩)] w (WsPost w rows) := by
  have HT := Lib.hid hT
  have Hwf := Lib.hid hwf
  have Hkd := Lib.hid hkd
  have Hsz := Lib.hid hsz
  obtain ⟨b, c, c0, hp, hbl, hc⟩ := rt_at hT hl 0 hn0
  have Hc := Lib.hid hc
  obtain ⟨i0, hi0, hz0, hz1, hz2⟩ := info_parts info_int
  have hmk := run_makeSlice (P := Tryz.prog) w 66 3 i0 (.int .i64 0) under_ints hi0 hz0 .i64 .i64 rows.length rows.length (by omega) (by omega) (by rw [hz1]; simp; omega) (by rw [hz2]; omega) (by omega)
  rw [hz1] at hmk
  have hcz : Value.cells (.int .i64 0) = #[.int .i64 0] := rfl
  rw [hcz, Int.toNat_natCast, Nat.mul_one] at hmk
  have Hround : Hid (∀ (x : Nat), x < rows.length → ∀ (want : Int), want ≤ 3 → ∀ (W : World), Below w.heap.size w W → Calls Tryz.prog 45 #[.pointer (some ⟨p, 0, none⟩), .int .i64 x, .int .i64 want] W fun e w' => e = .returned (.int .i64 (rd2 rows x want : Nat)) ∧ Below W.heap.size W w') :=
    Lib.hid fun x hx want h3 W hb => round04 W p rows F x want (hT.below hb) hl hwf (by omega) (by omega) h3
  have Hlev : Hid (∀ (x : Nat), x < rows.length → ∀ W : World, Below w.heap.size w W → Calls Tryz.prog 44 #[.pointer (some ⟨p, 0, none⟩), .int .i64 x] W fun e w' => e = .returned (.int .i64 (lvR rows x)) ∧ Below W.heap.size W w') :=
    Lib.hid fun x hx W hb => level04 W p rows F x (hT.below hb) hl hwf (by omega) (by omega)
  clear hT hwf hkd hsz hc hcz hi0 hz0 hz1 hz2
  go_enter Tryz.func23, Tryz.ntmps23
  go_wp2_with fail
  have HW0 := Lib.hid (wa_made rows)
  generalize madeCells #[.int .i64 0] rows.length = arr0 at *
  clear hmk
  go_loopw [4] (fun v wr => ∃ (i : Nat) (arr : Array Value), i ≤ rows.length ∧ v = .int .i64 i ∧ wr.heap[w.heap.size]? = some (.cells arr 3 (0, 0)) ∧ WA rows i arr ∧ Below w.heap.size w wr) (fun v _ => rows.length - (intOf v).toNat)
  case atStart => exact ⟨0, arr0, by omega, rfl, blk_new w _, HW0.out, (Below.refl _ _).alloc (Nat.le_refl _) _⟩
  case round =>
    obtain ⟨i, arr, hi, rfl, hg, hwa, hb⟩ := hrel
    obtain ⟨wo, rfl⟩ : ∃ wo : World, wo = wr := ⟨_, rfl⟩
    have HG := Lib.hid hg
    have HWA := Lib.hid hwa
    have HB := Lib.hid hb
    have hso := hb.size
    have hgl := blk_lt hg
    clear hg hwa hb
    have d0 := (HB.out.cell (p := ⟨p, 0, none⟩) hp).trans c0
    have hp2 : p < wo.heap.size := by omega
    by_cases hlt : i < rows.length
    · have hlt2 : (i : Int) < rows.length := by omega
      have hws := Hsz.out i hlt
      have hcs := wd_cases Hwf.out i hlt rows[i] rfl (Hkd.out i hlt)
      obtain ⟨e0, e1, e2, e3⟩ := Hc.out i hlt
      have E0 := (HB.out.cell (p := ⟨b, i * 4, none⟩) hbl).trans e0
      have E1 := (HB.out.cell (p := ⟨b, i * 4 + 1, none⟩) hbl).trans e1
      have E2 := (HB.out.cell (p := ⟨b, i * 4 + 2, none⟩) hbl).trans e2
      have E3 := (HB.out.cell (p := ⟨b, i * 4 + 3, none⟩) hbl).trans e3
      have hbl2 : b < wo.heap.size := by omega
      clear e0 e1 e2 e3
      have Hlv := Lib.hid (Hlev.out i hlt)
      have Hwd : Hid (wd rows i = wd rows i) := Lib.hid rfl
      generalize hwdi : wd rows i = wi at hcs
      have HWD := Lib.hid hwdi
      clear hwdi Hwd
      generalize lvR rows i = lv at *
      obtain ⟨v0, hv0⟩ := HWA.out.2.2 i hlt
      have hg0 : wo.cell? ⟨w.heap.size, i, none⟩ = some (.int .i64 v0) := (blk_cell HG.out i).trans hv0
      have hf0 : wo.frozen? ⟨w.heap.size, i, none⟩ = false := blk_frozen HG.out i
      generalize rows[i] = d at *
      obtain ⟨k, s, l, r⟩ := d
      simp only at *
      have HB1 := Lib.hid (below_alloc2 HB.out (.cells #[.int .i64 k, .string s, .int .i64 l, .int .i64 r] 54 (0, 0)))
      have G1 := Lib.hid (blk_alloc HG.out (.cells #[.int .i64 k, .string s, .int .i64 l, .int .i64 r] 54 (0, 0)))
      have X1 := Lib.hid (blk_new wo (.cells #[.int .i64 k, .string s, .int .i64 l, .int .i64 r] 54 (0, 0)))
      rcases hcs with ⟨rfl, hv⟩ | ⟨rfl, hv⟩ | ⟨rfl, rfl, hv⟩ | ⟨rfl, rfl, ⟨x, rfl, hx⟩, hv⟩ | ⟨hlv, ⟨x, y, rfl, rfl, hx, hy⟩, hv⟩
      · have Hv := Lib.hid hv
        have hs2 : (s.size : Int) ≤ 65536 := by omega
        have Hq := Lib.hid (show (s.size : Int) = (wd rows i : Nat) by rw [HWD.out, Hv.out]; omega)
        clear hv
        go_wp2_with fail
        exact ⟨⟨i + 1, arr.setIfInBounds i (.int .i64 s.size), by omega, by simp, blk_alloc (blk_set HG.out i _) _, HWA.out.setnext hlt Hq.out, below_alloc2 (below_set HB.out i _) _⟩, by simp [intOf]; omega⟩
      · have Hv := Lib.hid hv
        have Hq := Lib.hid (show (5 : Int) = (wd rows i : Nat) by rw [HWD.out, Hv.out]; rfl)
        clear hv
        go_wp2_with fail
        exact ⟨⟨i + 1, arr.setIfInBounds i (.int .i64 5), by omega, by simp, blk_alloc (blk_set HG.out i _) _, HWA.out.setnext hlt Hq.out, below_alloc2 (below_set HB.out i _) _⟩, by simp [intOf]; omega⟩
      · have Hv := Lib.hid hv
        have Hq := Lib.hid (show (4 : Int) = (wd rows i : Nat) by rw [HWD.out, Hv.out]; rfl)
        clear hv
        go_wp2_with fail
        refine (Hlv.out _ HB1.out).mono ?_
        rintro e w2 ⟨rfl, hb2⟩
        have HB2 := Lib.hid (HB1.out.trans (hb2.mono HB1.out.size))
        have G2 := Lib.hid (blk_below' G1.out hb2)
        have X2 := Lib.hid (blk_below' X1.out hb2)
        have hs2 := hb2.size
        clear hb2
        have g2 : w2.cell? ⟨w.heap.size, i, none⟩ = some (.int .i64 v0) := (blk_cell G2.out i).trans hv0
        have f2 : w2.frozen? ⟨w.heap.size, i, none⟩ = false := blk_frozen G2.out i
        have xk2 : w2.cell? ⟨wo.heap.size, 0, none⟩ = some (.int .i64 5) := (blk_cell X2.out 0).trans rfl
        have xl2 : w2.cell? ⟨wo.heap.size, 2, none⟩ = some (.int .i64 l) := (blk_cell X2.out 2).trans rfl
        have xr2 : w2.cell? ⟨wo.heap.size, 3, none⟩ = some (.int .i64 r) := (blk_cell X2.out 3).trans rfl
        go_wp2_with fail
        exact ⟨⟨i + 1, arr.setIfInBounds i (.int .i64 4), by omega, by simp, blk_set G2.out i _, HWA.out.setnext hlt Hq.out, below_set HB2.out i _⟩, by simp [intOf]; omega⟩
      · have Hv := Lib.hid hv
        have hwx := wd_le rows x
        have hrx : rd2 rows x 3 ≤ 2 := by unfold rd2; split <;> omega
        have hxn : x < rows.length := by omega
        have hx2 : (x : Int) < rows.length := by omega
        have hxi : ¬ i = x := by omega
        have hax := HWA.out.2.1 x hx
        clear hv
        go_wp2_with fail
        refine (Hlv.out _ HB1.out).mono ?_
        rintro e w2 ⟨rfl, hb2⟩
        have HB2 := Lib.hid (HB1.out.trans (hb2.mono HB1.out.size))
        have G2 := Lib.hid (blk_below' G1.out hb2)
        have X2 := Lib.hid (blk_below' X1.out hb2)
        have hs2 := hb2.size
        clear hb2
        go_wp2_with fail
        refine (Hlv.out _ HB2.out).mono ?_
        rintro e w3 ⟨rfl, hb3⟩
        have HB3 := Lib.hid (HB2.out.trans (hb3.mono HB2.out.size))
        have G3 := Lib.hid (blk_below' G2.out hb3)
        have X3 := Lib.hid (blk_below' X2.out hb3)
        have hs3 := hb3.size
        clear hb3
        have g3 : w3.cell? ⟨w.heap.size, i, none⟩ = some (.int .i64 v0) := (blk_cell G3.out i).trans hv0
        have f3 : w3.frozen? ⟨w.heap.size, i, none⟩ = false := blk_frozen G3.out i
        have xk3 : w3.cell? ⟨wo.heap.size, 0, none⟩ = some (.int .i64 5) := (blk_cell X3.out 0).trans rfl
        have xl3 : w3.cell? ⟨wo.heap.size, 2, none⟩ = some (.int .i64 x) := (blk_cell X3.out 2).trans rfl
        have xr3 : w3.cell? ⟨wo.heap.size, 3, none⟩ = some (.int .i64 r) := (blk_cell X3.out 3).trans rfl
        have ax3 : w3.cell? ⟨w.heap.size, x, none⟩ = some (.int .i64 (wd rows x : Nat)) := (blk_cell G3.out x).trans hax
        generalize wd rows x = wx at *
        generalize hrd : rd2 rows x 3 = rx at *
        have Hr3 := Lib.hid (Hround.out x hxn 3 (by omega))
        rw [hrd] at Hr3
        clear hrd
        have hnb : wo.heap.size ≠ (⟨w.heap.size, i, none⟩ : Addr).block := by show wo.heap.size ≠ w.heap.size; omega
        go_wp2_with fail
        have q1 : IntKind.i64.wrap (1 + (wx : Int)) = 1 + (wx : Int) := IntWalk.i64_in _ (by omega)
        have q2 : IntKind.i64.wrap (1 + (wx : Int) + (rx : Int)) = 1 + (wx : Int) + (rx : Int) := IntWalk.i64_in _ (by omega)
        go_region_held3 (fun W => W.cell? ⟨wo.heap.size, 2, none⟩ = some (.int .i64 x) ∧ W.cell? ⟨w.heap.size, x, none⟩ = some (.int .i64 (wx : Nat))) ((first | exact ⟨xl3, ax3⟩ | exact ⟨xl5, ax5⟩ | exact ⟨(blk_cell (blk_far X5.out hnb _) 2).trans rfl, (blk_cell (blk_set G5.out i _) x).trans ((Array.getElem?_setIfInBounds_ne hxi).trans hax)⟩))
          (first | (go_at_call 45; (with_reducible refine (Hr3.out _ ?_).mono ?_); exact HB3.out.drew; rintro e w5 ⟨rfl, hb5⟩; have HB5 := Lib.hid (HB3.out.drew.trans (hb5.mono HB3.out.size)); have G5 := Lib.hid (blk_below' (show (World.drew w3).heap[w.heap.size]? = _ from G3.out) hb5); have X5 := Lib.hid (blk_below' (show (World.drew w3).heap[wo.heap.size]? = _ from X3.out) hb5); have xl5 : w5.cell? ⟨wo.heap.size, 2, none⟩ = some (.int .i64 x) := (blk_cell X5.out 2).trans rfl; have ax5 : w5.cell? ⟨w.heap.size, x, none⟩ = some (.int .i64 (wx : Nat)) := (blk_cell G5.out x).trans hax; have g5 : w5.cell? ⟨w.heap.size, i, none⟩ = some (.int .i64 v0) := (blk_cell G5.out i).trans hv0; have f5 : w5.frozen? ⟨w.heap.size, i, none⟩ = false := blk_frozen G5.out i; clear hb5))
        all_goals
          clear q1 q2 xl3 ax3 xr3 xk3 g3 f3 xl5 ax5
          by_cases hbig : 65536 < 1 + wx + rx
          · have hbig2 : (65536 : Int) < 1 + (wx : Int) + rx := by omega
            have Hq := Lib.hid (show (65537 : Int) = (wd rows i : Nat) by rw [HWD.out, Hv.out]; omega)
            go_wp2_with fail
            exact ⟨⟨i + 1, _, by omega, by simp, blk_set (blk_set G5.out i _) i _, (HWA.out.set hlt _).setnext hlt Hq.out, below_set (below_set HB5.out i _) i _⟩, by simp [intOf]; omega⟩
          · have hbig2 : ¬ (65536 : Int) < 1 + (wx : Int) + rx := by omega
            have Hq := Lib.hid (show (1 + (wx : Int) + rx : Int) = (wd rows i : Nat) by rw [HWD.out, Hv.out]; omega)
            go_wp2_with fail
            exact ⟨⟨i + 1, _, by omega, by simp, blk_set G5.out i _, HWA.out.setnext hlt Hq.out, below_set HB5.out i _⟩, by simp [intOf]; omega⟩
      · have hwx := wd_le rows x
        have hwy := wd_le rows y
        have hxn : x < rows.length := by omega
        have hx2 : (x : Int) < rows.length := by omega
        have hxi : ¬ i = x := by omega
        have hax := HWA.out.2.1 x hx
        have hyn : y < rows.length := by omega
        have hy2 : (y : Int) < rows.length := by omega
        have hyi : ¬ i = y := by omega
        have hay := HWA.out.2.1 y hy
        have l4 : (lv == 4) = false := by simp; omega
        have l3 : (lv == 3) = false := by simp; omega
        have hnb : wo.heap.size ≠ (⟨w.heap.size, i, none⟩ : Addr).block := by show wo.heap.size ≠ w.heap.size; omega
        rcases hv with ⟨rfl, hv⟩ | ⟨rfl, hv⟩ | ⟨rfl, hv⟩
        · have Hv := Lib.hid hv
          have hrx : rd2 rows x 2 ≤ 2 := by unfold rd2; split <;> omega
          have hry : rd2 rows y 3 ≤ 2 := by unfold rd2; split <;> omega
          have hn : ∀ W, Calls Tryz.prog 46 #[.int .i64 3] W fun e w' => e = .returned (.tuple #[.int .i64 2, .int .i64 3]) ∧ W = w' := fun W => needs04 W 3
          clear hv
          go_wp2_with fail
          refine (Hlv.out _ HB1.out).mono ?_
          rintro e w2 ⟨rfl, hb2⟩
          have HB2 := Lib.hid (HB1.out.trans (hb2.mono HB1.out.size))
          have G2 := Lib.hid (blk_below' G1.out hb2)
          have X2 := Lib.hid (blk_below' X1.out hb2)
          have hs2 := hb2.size
          clear hb2
          go_wp2_with fail
          refine (Hlv.out _ HB2.out).mono ?_
          rintro e w3 ⟨rfl, hb3⟩
          have HB3 := Lib.hid (HB2.out.trans (hb3.mono HB2.out.size))
          have G3 := Lib.hid (blk_below' G2.out hb3)
          have X3 := Lib.hid (blk_below' X2.out hb3)
          have hs3 := hb3.size
          clear hb3
          have g3 : w3.cell? ⟨w.heap.size, i, none⟩ = some (.int .i64 v0) := (blk_cell G3.out i).trans hv0
          have f3 : w3.frozen? ⟨w.heap.size, i, none⟩ = false := blk_frozen G3.out i
          have xk3 : w3.cell? ⟨wo.heap.size, 0, none⟩ = some (.int .i64 3) := (blk_cell X3.out 0).trans rfl
          have xl3 : w3.cell? ⟨wo.heap.size, 2, none⟩ = some (.int .i64 x) := (blk_cell X3.out 2).trans rfl
          have xr3 : w3.cell? ⟨wo.heap.size, 3, none⟩ = some (.int .i64 y) := (blk_cell X3.out 3).trans rfl
          go_wp2_with fail
          refine (hn w3).mono ?_
          rintro e w4 ⟨rfl, rfl⟩
          clear hn
          have ax3 : w3.cell? ⟨w.heap.size, x, none⟩ = some (.int .i64 (wd rows x : Nat)) := (blk_cell G3.out x).trans hax
          have ay3 : w3.cell? ⟨w.heap.size, y, none⟩ = some (.int .i64 (wd rows y : Nat)) := (blk_cell G3.out y).trans hay
          have Hrx := Lib.hid (Hround.out x hxn 2 (by omega))
          have Hry := Lib.hid (Hround.out y hyn 3 (by omega))
          have Hax := Lib.hid hax
          have Hay := Lib.hid hay
          clear hax hay
          generalize wd rows x = wx at *
          generalize wd rows y = wy at *
          generalize rd2 rows x 2 = rx at *
          generalize rd2 rows y 3 = ry at *
          go_wp2_with fail
          have q1 : IntKind.i64.wrap ((wx : Int) + (rx : Int)) = (wx : Int) + (rx : Int) := IntWalk.i64_in _ (by omega)
          have q2 : IntKind.i64.wrap ((wx : Int) + (rx : Int) + 3) = (wx : Int) + (rx : Int) + 3 := IntWalk.i64_in _ (by omega)
          have q3 : IntKind.i64.wrap ((wx : Int) + (rx : Int) + 3 + (wy : Int)) = (wx : Int) + (rx : Int) + 3 + (wy : Int) := IntWalk.i64_in _ (by omega)
          have q4 : IntKind.i64.wrap ((wx : Int) + (rx : Int) + 3 + (wy : Int) + (ry : Int)) = (wx : Int) + (rx : Int) + 3 + (wy : Int) + (ry : Int) := IntWalk.i64_in _ (by omega)
          go_region_held3 (fun W => W.cell? ⟨wo.heap.size, 2, none⟩ = some (.int .i64 x) ∧ W.cell? ⟨wo.heap.size, 3, none⟩ = some (.int .i64 y) ∧ W.cell? ⟨w.heap.size, x, none⟩ = some (.int .i64 (wx : Nat)) ∧ W.cell? ⟨w.heap.size, y, none⟩ = some (.int .i64 (wy : Nat))) ((first | exact ⟨xl3, xr3, ax3, ay3⟩ | exact S5 | exact S6 | exact ⟨(blk_cell (blk_far X6.out hnb _) 2).trans rfl, (blk_cell (blk_far X6.out hnb _) 3).trans rfl, (blk_cell (blk_set G6.out i _) x).trans ((Array.getElem?_setIfInBounds_ne hxi).trans Hax.out), (blk_cell (blk_set G6.out i _) y).trans ((Array.getElem?_setIfInBounds_ne hyi).trans Hay.out)⟩))
            (first
              | (go_at_call 45; (with_reducible refine (Hrx.out _ ?_).mono ?_); exact HB3.out.drew; rintro e w5 ⟨rfl, hb5⟩; have HB5 := Lib.hid (HB3.out.drew.trans (hb5.mono HB3.out.size)); have G5 := Lib.hid (blk_below' (show (World.drew w3).heap[w.heap.size]? = _ from G3.out) hb5); have X5 := Lib.hid (blk_below' (show (World.drew w3).heap[wo.heap.size]? = _ from X3.out) hb5); have S5 := (⟨(blk_cell X5.out 2).trans rfl, (blk_cell X5.out 3).trans rfl, (blk_cell G5.out x).trans Hax.out, (blk_cell G5.out y).trans Hay.out⟩ : w5.cell? ⟨wo.heap.size, 2, none⟩ = some (.int .i64 x) ∧ w5.cell? ⟨wo.heap.size, 3, none⟩ = some (.int .i64 y) ∧ w5.cell? ⟨w.heap.size, x, none⟩ = some (.int .i64 (wx : Nat)) ∧ w5.cell? ⟨w.heap.size, y, none⟩ = some (.int .i64 (wy : Nat))); clear hb5)
              | (go_at_call 45; (with_reducible refine (Hry.out _ ?_).mono ?_); exact HB5.out; rintro e w6 ⟨rfl, hb6⟩; have HB6 := Lib.hid (HB5.out.trans (hb6.mono HB5.out.size)); have G6 := Lib.hid (blk_below' G5.out hb6); have X6 := Lib.hid (blk_below' X5.out hb6); have S6 := (⟨(blk_cell X6.out 2).trans rfl, (blk_cell X6.out 3).trans rfl, (blk_cell G6.out x).trans Hax.out, (blk_cell G6.out y).trans Hay.out⟩ : w6.cell? ⟨wo.heap.size, 2, none⟩ = some (.int .i64 x) ∧ w6.cell? ⟨wo.heap.size, 3, none⟩ = some (.int .i64 y) ∧ w6.cell? ⟨w.heap.size, x, none⟩ = some (.int .i64 (wx : Nat)) ∧ w6.cell? ⟨w.heap.size, y, none⟩ = some (.int .i64 (wy : Nat))); have g6 : w6.cell? ⟨w.heap.size, i, none⟩ = some (.int .i64 v0) := (blk_cell G6.out i).trans hv0; have f6 : w6.frozen? ⟨w.heap.size, i, none⟩ = false := blk_frozen G6.out i; clear hb6))
          all_goals
            clear q1 q2 q3 q4 xl3 ax3 xr3 xk3 g3 f3 ay3 S5 S6
            have xk6 : w6.cell? ⟨wo.heap.size, 0, none⟩ = some (.int .i64 3) := (blk_cell X6.out 0).trans rfl
            have hnw : ¬ wo.heap.size = w.heap.size := by omega
            by_cases hbig : 65536 < wx + rx + 3 + wy + ry
            · have hbig2 : (65536 : Int) < (wx : Int) + rx + 3 + wy + ry := by omega
              have Hq := Lib.hid (show (65537 : Int) = (wd rows i : Nat) by rw [HWD.out, Hv.out]; omega)
              go_wp2_with fail
              exact ⟨⟨i + 1, _, by omega, by simp, blk_set (blk_set G6.out i _) i _, (HWA.out.set hlt _).setnext hlt Hq.out, below_set (below_set HB6.out i _) i _⟩, by simp [intOf]; omega⟩
            · have hbig2 : ¬ (65536 : Int) < (wx : Int) + rx + 3 + wy + ry := by omega
              have Hq := Lib.hid (show ((wx : Int) + rx + 3 + wy + ry : Int) = (wd rows i : Nat) by rw [HWD.out, Hv.out]; omega)
              go_wp2_with fail
              exact ⟨⟨i + 1, _, by omega, by simp, blk_set G6.out i _, HWA.out.setnext hlt Hq.out, below_set HB6.out i _⟩, by simp [intOf]; omega⟩
        · have Hv := Lib.hid hv
          have hrx : rd2 rows x 1 ≤ 2 := by unfold rd2; split <;> omega
          have hry : rd2 rows y 2 ≤ 2 := by unfold rd2; split <;> omega
          have hn : ∀ W, Calls Tryz.prog 46 #[.int .i64 4] W fun e w' => e = .returned (.tuple #[.int .i64 1, .int .i64 2]) ∧ W = w' := fun W => needs04 W 4
          clear hv
          go_wp2_with fail
          refine (Hlv.out _ HB1.out).mono ?_
          rintro e w2 ⟨rfl, hb2⟩
          have HB2 := Lib.hid (HB1.out.trans (hb2.mono HB1.out.size))
          have G2 := Lib.hid (blk_below' G1.out hb2)
          have X2 := Lib.hid (blk_below' X1.out hb2)
          have hs2 := hb2.size
          clear hb2
          go_wp2_with fail
          refine (Hlv.out _ HB2.out).mono ?_
          rintro e w3 ⟨rfl, hb3⟩
          have HB3 := Lib.hid (HB2.out.trans (hb3.mono HB2.out.size))
          have G3 := Lib.hid (blk_below' G2.out hb3)
          have X3 := Lib.hid (blk_below' X2.out hb3)
          have hs3 := hb3.size
          clear hb3
          have g3 : w3.cell? ⟨w.heap.size, i, none⟩ = some (.int .i64 v0) := (blk_cell G3.out i).trans hv0
          have f3 : w3.frozen? ⟨w.heap.size, i, none⟩ = false := blk_frozen G3.out i
          have xk3 : w3.cell? ⟨wo.heap.size, 0, none⟩ = some (.int .i64 4) := (blk_cell X3.out 0).trans rfl
          have xl3 : w3.cell? ⟨wo.heap.size, 2, none⟩ = some (.int .i64 x) := (blk_cell X3.out 2).trans rfl
          have xr3 : w3.cell? ⟨wo.heap.size, 3, none⟩ = some (.int .i64 y) := (blk_cell X3.out 3).trans rfl
          go_wp2_with fail
          refine (hn w3).mono ?_
          rintro e w4 ⟨rfl, rfl⟩
          clear hn
          have ax3 : w3.cell? ⟨w.heap.size, x, none⟩ = some (.int .i64 (wd rows x : Nat)) := (blk_cell G3.out x).trans hax
          have ay3 : w3.cell? ⟨w.heap.size, y, none⟩ = some (.int .i64 (wd rows y : Nat)) := (blk_cell G3.out y).trans hay
          have Hrx := Lib.hid (Hround.out x hxn 1 (by omega))
          have Hry := Lib.hid (Hround.out y hyn 2 (by omega))
          have Hax := Lib.hid hax
          have Hay := Lib.hid hay
          clear hax hay
          generalize wd rows x = wx at *
          generalize wd rows y = wy at *
          generalize rd2 rows x 1 = rx at *
          generalize rd2 rows y 2 = ry at *
          go_wp2_with fail
          have q1 : IntKind.i64.wrap ((wx : Int) + (rx : Int)) = (wx : Int) + (rx : Int) := IntWalk.i64_in _ (by omega)
          have q2 : IntKind.i64.wrap ((wx : Int) + (rx : Int) + 3) = (wx : Int) + (rx : Int) + 3 := IntWalk.i64_in _ (by omega)
          have q3 : IntKind.i64.wrap ((wx : Int) + (rx : Int) + 3 + (wy : Int)) = (wx : Int) + (rx : Int) + 3 + (wy : Int) := IntWalk.i64_in _ (by omega)
          have q4 : IntKind.i64.wrap ((wx : Int) + (rx : Int) + 3 + (wy : Int) + (ry : Int)) = (wx : Int) + (rx : Int) + 3 + (wy : Int) + (ry : Int) := IntWalk.i64_in _ (by omega)
          go_region_held3 (fun W => W.cell? ⟨wo.heap.size, 2, none⟩ = some (.int .i64 x) ∧ W.cell? ⟨wo.heap.size, 3, none⟩ = some (.int .i64 y) ∧ W.cell? ⟨w.heap.size, x, none⟩ = some (.int .i64 (wx : Nat)) ∧ W.cell? ⟨w.heap.size, y, none⟩ = some (.int .i64 (wy : Nat))) ((first | exact ⟨xl3, xr3, ax3, ay3⟩ | exact S5 | exact S6 | exact ⟨(blk_cell (blk_far X6.out hnb _) 2).trans rfl, (blk_cell (blk_far X6.out hnb _) 3).trans rfl, (blk_cell (blk_set G6.out i _) x).trans ((Array.getElem?_setIfInBounds_ne hxi).trans Hax.out), (blk_cell (blk_set G6.out i _) y).trans ((Array.getElem?_setIfInBounds_ne hyi).trans Hay.out)⟩))
            (first
              | (go_at_call 45; (with_reducible refine (Hrx.out _ ?_).mono ?_); exact HB3.out.drew; rintro e w5 ⟨rfl, hb5⟩; have HB5 := Lib.hid (HB3.out.drew.trans (hb5.mono HB3.out.size)); have G5 := Lib.hid (blk_below' (show (World.drew w3).heap[w.heap.size]? = _ from G3.out) hb5); have X5 := Lib.hid (blk_below' (show (World.drew w3).heap[wo.heap.size]? = _ from X3.out) hb5); have S5 := (⟨(blk_cell X5.out 2).trans rfl, (blk_cell X5.out 3).trans rfl, (blk_cell G5.out x).trans Hax.out, (blk_cell G5.out y).trans Hay.out⟩ : w5.cell? ⟨wo.heap.size, 2, none⟩ = some (.int .i64 x) ∧ w5.cell? ⟨wo.heap.size, 3, none⟩ = some (.int .i64 y) ∧ w5.cell? ⟨w.heap.size, x, none⟩ = some (.int .i64 (wx : Nat)) ∧ w5.cell? ⟨w.heap.size, y, none⟩ = some (.int .i64 (wy : Nat))); clear hb5)
              | (go_at_call 45; (with_reducible refine (Hry.out _ ?_).mono ?_); exact HB5.out; rintro e w6 ⟨rfl, hb6⟩; have HB6 := Lib.hid (HB5.out.trans (hb6.mono HB5.out.size)); have G6 := Lib.hid (blk_below' G5.out hb6); have X6 := Lib.hid (blk_below' X5.out hb6); have S6 := (⟨(blk_cell X6.out 2).trans rfl, (blk_cell X6.out 3).trans rfl, (blk_cell G6.out x).trans Hax.out, (blk_cell G6.out y).trans Hay.out⟩ : w6.cell? ⟨wo.heap.size, 2, none⟩ = some (.int .i64 x) ∧ w6.cell? ⟨wo.heap.size, 3, none⟩ = some (.int .i64 y) ∧ w6.cell? ⟨w.heap.size, x, none⟩ = some (.int .i64 (wx : Nat)) ∧ w6.cell? ⟨w.heap.size, y, none⟩ = some (.int .i64 (wy : Nat))); have g6 : w6.cell? ⟨w.heap.size, i, none⟩ = some (.int .i64 v0) := (blk_cell G6.out i).trans hv0; have f6 : w6.frozen? ⟨w.heap.size, i, none⟩ = false := blk_frozen G6.out i; clear hb6))
          all_goals
            clear q1 q2 q3 q4 xl3 ax3 xr3 xk3 g3 f3 ay3 S5 S6
            have xk6 : w6.cell? ⟨wo.heap.size, 0, none⟩ = some (.int .i64 4) := (blk_cell X6.out 0).trans rfl
            have hnw : ¬ wo.heap.size = w.heap.size := by omega
            by_cases hbig : 65536 < wx + rx + 3 + wy + ry
            · have hbig2 : (65536 : Int) < (wx : Int) + rx + 3 + wy + ry := by omega
              have Hq := Lib.hid (show (65537 : Int) = (wd rows i : Nat) by rw [HWD.out, Hv.out]; omega)
              go_wp2_with fail
              exact ⟨⟨i + 1, _, by omega, by simp, blk_set (blk_set G6.out i _) i _, (HWA.out.set hlt _).setnext hlt Hq.out, below_set (below_set HB6.out i _) i _⟩, by simp [intOf]; omega⟩
            · have hbig2 : ¬ (65536 : Int) < (wx : Int) + rx + 3 + wy + ry := by omega
              have Hq := Lib.hid (show ((wx : Int) + rx + 3 + wy + ry : Int) = (wd rows i : Nat) by rw [HWD.out, Hv.out]; omega)
              go_wp2_with fail
              exact ⟨⟨i + 1, _, by omega, by simp, blk_set G6.out i _, HWA.out.setnext hlt Hq.out, below_set HB6.out i _⟩, by simp [intOf]; omega⟩
        · have Hv := Lib.hid hv
          have hrx : rd2 rows x 1 ≤ 2 := by unfold rd2; split <;> omega
          have hry : rd2 rows y 0 ≤ 2 := by unfold rd2; split <;> omega
          have hn : ∀ W, Calls Tryz.prog 46 #[.int .i64 5] W fun e w' => e = .returned (.tuple #[.int .i64 1, .int .i64 0]) ∧ W = w' := fun W => needs04 W 5
          clear hv
          go_wp2_with fail
          refine (Hlv.out _ HB1.out).mono ?_
          rintro e w2 ⟨rfl, hb2⟩
          have HB2 := Lib.hid (HB1.out.trans (hb2.mono HB1.out.size))
          have G2 := Lib.hid (blk_below' G1.out hb2)
          have X2 := Lib.hid (blk_below' X1.out hb2)
          have hs2 := hb2.size
          clear hb2
          go_wp2_with fail
          refine (Hlv.out _ HB2.out).mono ?_
          rintro e w3 ⟨rfl, hb3⟩
          have HB3 := Lib.hid (HB2.out.trans (hb3.mono HB2.out.size))
          have G3 := Lib.hid (blk_below' G2.out hb3)
          have X3 := Lib.hid (blk_below' X2.out hb3)
          have hs3 := hb3.size
          clear hb3
          have g3 : w3.cell? ⟨w.heap.size, i, none⟩ = some (.int .i64 v0) := (blk_cell G3.out i).trans hv0
          have f3 : w3.frozen? ⟨w.heap.size, i, none⟩ = false := blk_frozen G3.out i
          have xk3 : w3.cell? ⟨wo.heap.size, 0, none⟩ = some (.int .i64 5) := (blk_cell X3.out 0).trans rfl
          have xl3 : w3.cell? ⟨wo.heap.size, 2, none⟩ = some (.int .i64 x) := (blk_cell X3.out 2).trans rfl
          have xr3 : w3.cell? ⟨wo.heap.size, 3, none⟩ = some (.int .i64 y) := (blk_cell X3.out 3).trans rfl
          go_wp2_with fail
          refine (hn w3).mono ?_
          rintro e w4 ⟨rfl, rfl⟩
          clear hn
          have ax3 : w3.cell? ⟨w.heap.size, x, none⟩ = some (.int .i64 (wd rows x : Nat)) := (blk_cell G3.out x).trans hax
          have ay3 : w3.cell? ⟨w.heap.size, y, none⟩ = some (.int .i64 (wd rows y : Nat)) := (blk_cell G3.out y).trans hay
          have Hrx := Lib.hid (Hround.out x hxn 1 (by omega))
          have Hry := Lib.hid (Hround.out y hyn 0 (by omega))
          have Hax := Lib.hid hax
          have Hay := Lib.hid hay
          clear hax hay
          generalize wd rows x = wx at *
          generalize wd rows y = wy at *
          generalize rd2 rows x 1 = rx at *
          generalize rd2 rows y 0 = ry at *
          go_wp2_with fail
          have q1 : IntKind.i64.wrap ((wx : Int) + (rx : Int)) = (wx : Int) + (rx : Int) := IntWalk.i64_in _ (by omega)
          have q2 : IntKind.i64.wrap ((wx : Int) + (rx : Int) + 3) = (wx : Int) + (rx : Int) + 3 := IntWalk.i64_in _ (by omega)
          have q3 : IntKind.i64.wrap ((wx : Int) + (rx : Int) + 3 + (wy : Int)) = (wx : Int) + (rx : Int) + 3 + (wy : Int) := IntWalk.i64_in _ (by omega)
          have q4 : IntKind.i64.wrap ((wx : Int) + (rx : Int) + 3 + (wy : Int) + (ry : Int)) = (wx : Int) + (rx : Int) + 3 + (wy : Int) + (ry : Int) := IntWalk.i64_in _ (by omega)
          go_region_held3 (fun W => W.cell? ⟨wo.heap.size, 2, none⟩ = some (.int .i64 x) ∧ W.cell? ⟨wo.heap.size, 3, none⟩ = some (.int .i64 y) ∧ W.cell? ⟨w.heap.size, x, none⟩ = some (.int .i64 (wx : Nat)) ∧ W.cell? ⟨w.heap.size, y, none⟩ = some (.int .i64 (wy : Nat))) ((first | exact ⟨xl3, xr3, ax3, ay3⟩ | exact S5 | exact S6 | exact ⟨(blk_cell (blk_far X6.out hnb _) 2).trans rfl, (blk_cell (blk_far X6.out hnb _) 3).trans rfl, (blk_cell (blk_set G6.out i _) x).trans ((Array.getElem?_setIfInBounds_ne hxi).trans Hax.out), (blk_cell (blk_set G6.out i _) y).trans ((Array.getElem?_setIfInBounds_ne hyi).trans Hay.out)⟩))
            (first
              | (go_at_call 45; (with_reducible refine (Hrx.out _ ?_).mono ?_); exact HB3.out.drew; rintro e w5 ⟨rfl, hb5⟩; have HB5 := Lib.hid (HB3.out.drew.trans (hb5.mono HB3.out.size)); have G5 := Lib.hid (blk_below' (show (World.drew w3).heap[w.heap.size]? = _ from G3.out) hb5); have X5 := Lib.hid (blk_below' (show (World.drew w3).heap[wo.heap.size]? = _ from X3.out) hb5); have S5 := (⟨(blk_cell X5.out 2).trans rfl, (blk_cell X5.out 3).trans rfl, (blk_cell G5.out x).trans Hax.out, (blk_cell G5.out y).trans Hay.out⟩ : w5.cell? ⟨wo.heap.size, 2, none⟩ = some (.int .i64 x) ∧ w5.cell? ⟨wo.heap.size, 3, none⟩ = some (.int .i64 y) ∧ w5.cell? ⟨w.heap.size, x, none⟩ = some (.int .i64 (wx : Nat)) ∧ w5.cell? ⟨w.heap.size, y, none⟩ = some (.int .i64 (wy : Nat))); clear hb5)
              | (go_at_call 45; (with_reducible refine (Hry.out _ ?_).mono ?_); exact HB5.out; rintro e w6 ⟨rfl, hb6⟩; have HB6 := Lib.hid (HB5.out.trans (hb6.mono HB5.out.size)); have G6 := Lib.hid (blk_below' G5.out hb6); have X6 := Lib.hid (blk_below' X5.out hb6); have S6 := (⟨(blk_cell X6.out 2).trans rfl, (blk_cell X6.out 3).trans rfl, (blk_cell G6.out x).trans Hax.out, (blk_cell G6.out y).trans Hay.out⟩ : w6.cell? ⟨wo.heap.size, 2, none⟩ = some (.int .i64 x) ∧ w6.cell? ⟨wo.heap.size, 3, none⟩ = some (.int .i64 y) ∧ w6.cell? ⟨w.heap.size, x, none⟩ = some (.int .i64 (wx : Nat)) ∧ w6.cell? ⟨w.heap.size, y, none⟩ = some (.int .i64 (wy : Nat))); have g6 : w6.cell? ⟨w.heap.size, i, none⟩ = some (.int .i64 v0) := (blk_cell G6.out i).trans hv0; have f6 : w6.frozen? ⟨w.heap.size, i, none⟩ = false := blk_frozen G6.out i; clear hb6))
          all_goals
            clear q1 q2 q3 q4 xl3 ax3 xr3 xk3 g3 f3 ay3 S5 S6
            have xk6 : w6.cell? ⟨wo.heap.size, 0, none⟩ = some (.int .i64 5) := (blk_cell X6.out 0).trans rfl
            have hnw : ¬ wo.heap.size = w.heap.size := by omega
            by_cases hbig : 65536 < wx + rx + 3 + wy + ry + 1
            · have hbig2 : (65536 : Int) < (wx : Int) + rx + 3 + wy + ry + 1 := by omega
              have Hq := Lib.hid (show (65537 : Int) = (wd rows i : Nat) by rw [HWD.out, Hv.out]; omega)
              go_wp2_with fail
              exact ⟨⟨i + 1, _, by omega, by simp, blk_set (blk_set (blk_set G6.out i _) i _) i _, ((HWA.out.set hlt _).set hlt _).setnext hlt Hq.out, below_set (below_set (below_set HB6.out i _) i _) i _⟩, by simp [intOf]; omega⟩
            · have hbig2 : ¬ (65536 : Int) < (wx : Int) + rx + 3 + wy + ry + 1 := by omega
              have Hq := Lib.hid (show ((wx : Int) + rx + 3 + wy + ry + 1 : Int) = (wd rows i : Nat) by rw [HWD.out, Hv.out]; omega)
              go_wp2_with fail
              exact ⟨⟨i + 1, _, by omega, by simp, blk_set (blk_set G6.out i _) i _, (HWA.out.set hlt _).setnext hlt Hq.out, below_set (below_set HB6.out i _) i _⟩, by simp [intOf]; omega⟩
    · have hlt2 : ¬ (i : Int) < rows.length := by omega
      obtain rfl : i = rows.length := by omega
      go_wp2_with fail
      go_ret
      exact ⟨_, arr, rfl, HG.out, HWA.out, HB.out⟩
end Go.Proofs.YtglnmkdlcbkpeaaGreatDoor
/- The reference's Print. -/
set_option linter.unusedVariables false
set_option linter.unusedSimpArgs false
namespace Go.Proofs.YtglnmkdlcbkpeaaGreatDoor
open Go.RowKit

set_option maxRecDepth 100000 in
set_option maxHeartbeats 4000000 in
theorem print04 (w : World) (p : Nat) (rows : List Nd) (F : Nat → Prop) (id : Int) (hT : RT w p rows F) (hl : rows.length ≤ 1024) (hwf : wfR rows) (hkd : kdR rows) (hsz : szR rows) :
    Calls Tryz.prog 7 #[.pointer (some ⟨p, 0, none⟩), .int .i64 id] w (PrPost w (printR rows id)) := by
  have HT := Lib.hid hT
  have Hwf := Lib.hid hwf
  have Hkd := Lib.hid hkd
  have Hsz := Lib.hid hsz
  have HX := Lib.hid (show printR rows id = if hasB rows.length id then (if 65536 < wd rows id then ([], 11) else (tx rows id 0, 0)) else ([], 31) from rfl)
  generalize printR rows id = x at *
  obtain ⟨a, c, h1, _⟩ := HT.out
  have c0 : w.cell? ⟨p, 0, none⟩ = some (.slice a rows.length c) := (blk_cell h1 0).trans rfl
  clear hT hwf hkd hsz h1
  go_enter Tryz.func7, Tryz.ntmps7
  go_wp2_with fail
  refine (has03 p a rows.length c id w c0).mono ?_
  rintro e w1 ⟨rfl, rfl⟩
  clear c0
  cases hh : hasB rows.length id with
  | false =>
    have Hx := Lib.hid (HX.out.trans (by simp [hh] : _ = (([], 31) : List UInt8 × Int)))
    clear HX hh
    go_wp2_with fail
    go_ret2
    rw [Hx.out]
    exact ⟨rfl, Below.refl _ _⟩
  | true =>
    have hid := hh
    simp only [hasB, Bool.and_eq_true, decide_eq_true_eq] at hid
    obtain ⟨h0, h1⟩ := hid
    have HX2 := Lib.hid (HX.out.trans (by simp [hh] : _ = (if 65536 < wd rows id then (([], 11) : List UInt8 × Int) else (tx rows id 0, 0))))
    obtain ⟨i, rfl⟩ := Int.eq_ofNat_of_zero_le h0
    have hi : i < rows.length := by omega
    clear HX hh
    go_wp2_with fail
    refine (widths04 w p rows F HT.out hl (by omega) Hwf.out Hkd.out Hsz.out).mono ?_
    rintro e w2 ⟨g, arr, rfl, hg, hwa, hb2⟩
    have HB2 := Lib.hid hb2
    have hgi : w2.cell? ⟨g, i, none⟩ = some (.int .i64 (wd rows i : Nat)) := (blk_cell hg i).trans (hwa.2.1 i hi)
    have hwl := wd_le rows i
    clear hg hwa hb2
    by_cases hbig : 65536 < wd rows i
    · have Hx := Lib.hid (HX2.out.trans (if_pos hbig))
      have hb2 : (65536 : Int) < wd rows i := by omega
      clear HX2
      go_wp2_with fail
      go_ret2
      rw [Hx.out]
      exact ⟨rfl, HB2.out⟩
    · have Hx := Lib.hid (HX2.out.trans (if_neg hbig))
      have hb2 : ¬ (65536 : Int) < wd rows i := by omega
      have hlen : (bare rows i).length ≤ 1099511627776 := by unfold wd at hbig; omega
      have Hz := Lib.hid (tx_zero Hwf.out i h0 h1)
      clear HX2
      go_wp2_with fail
      refine (text04 rows Hwf.out Hkd.out hl rows.length i hi hi w2 p F (HT.out.below HB2.out) hlen).mono ?_
      rintro e w3 ⟨rfl, hb3⟩
      have HB3 := Lib.hid (HB2.out.trans (hb3.mono HB2.out.size))
      clear hb3
      go_wp2_with fail
      go_ret2
      rw [Hx.out, Hz.out]
      exact ⟨rfl, HB3.out⟩
end Go.Proofs.YtglnmkdlcbkpeaaGreatDoor
