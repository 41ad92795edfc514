/-
  The reference's level, needs, round, part and text.
-/
import Derived.Test.YtglnmkdlcbkpeaaGreatDoorGV
import Derived.Test.YtglnmkdlcbkpeaaGreatDoorGR
import Derived.Test.YtglnmkdlcbkpeaaGreatDoorGW
import Derived.Deep.RegionWith
/- The reference's Print: level, needs, round. -/
set_option linter.unusedVariables false
set_option linter.unusedSimpArgs false
namespace Go.Proofs.YtglnmkdlcbkpeaaGreatDoor
open Go.RowKit

def lvR (rows : List Nd) (i : Int) : Int :=
  if (nodeAt rows i).k = 3 then 2 else if (nodeAt rows i).k = 4 then 1 else if (nodeAt rows i).k = 5 then (if isBot rows (nodeAt rows i).r then (if isBot rows (nodeAt rows i).l then 4 else 3) else 0) else 4
theorem lvR_lt (rows : List Nd) (i want : Int) (h : want ≤ 3) : decide (lvR rows i < want) = decide (lvl rows i < want) := by
  rw [Bool.eq_iff_iff]
  simp only [decide_eq_true_eq]
  unfold lvR lvl
  repeat' split
  all_goals omega
theorem rt_at {w : World} {p : Nat} {rows : List Nd} {F : Nat → Prop} (h : RT w p rows F) (hl : rows.length ≤ 1024) (i : Nat) (hi : i < rows.length) : ∃ b c, w.cell? ⟨p, 0, none⟩ = some (.slice (some ⟨b, 0, none⟩) rows.length c) ∧ p < w.heap.size ∧ b < w.heap.size ∧
    ∀ j (hj : j < rows.length), w.cell? ⟨b, j * 4, none⟩ = some (.int .i64 rows[j].k) ∧ w.cell? ⟨b, j * 4 + 1, none⟩ = some (.string rows[j].s) ∧ w.cell? ⟨b, j * 4 + 2, none⟩ = some (.int .i64 rows[j].l) ∧ w.cell? ⟨b, j * 4 + 3, none⟩ = some (.int .i64 rows[j].r) := by
  obtain ⟨a, c, h1, h2, h5, h7⟩ := h
  obtain ⟨g, rfl, hg⟩ := own_cell h2 (by omega)
  obtain ⟨cs, hc⟩ := own_typed h2 g rfl
  refine ⟨g, c, (blk_cell h1 0).trans rfl, blk_lt h1, blk_lt hc, fun j hj => ?_⟩
  exact ⟨hg (j * 4) _ ((cellsOf_get rows j hj 0 (by omega)).trans rfl), hg (j * 4 + 1) _ ((cellsOf_get rows j hj 1 (by omega)).trans rfl), hg (j * 4 + 2) _ ((cellsOf_get rows j hj 2 (by omega)).trans rfl), hg (j * 4 + 3) _ ((cellsOf_get rows j hj 3 (by omega)).trans rfl)⟩

set_option maxRecDepth 100000 in
set_option maxHeartbeats 4000000 in
theorem level04 (w : World) (p : Nat) (rows : List Nd) (F : Nat → Prop) (id : Int) (hT : RT w p rows F) (hl : rows.length ≤ 1024) (hwf : wfR rows) (h0 : 0 ≤ id) (h1 : id < rows.length) :
    Calls Tryz.prog 44 #[.pointer (some ⟨p, 0, none⟩), .int .i64 id] w fun e w' => e = .returned (.int .i64 (lvR rows id)) ∧ Below w.heap.size w w' := by
  obtain ⟨i, rfl⟩ := Int.eq_ofNat_of_zero_le h0
  have hi : i < rows.length := by omega
  obtain ⟨b, c, c0, hp, hbl, hc⟩ := rt_at hT hl i hi
  have hwi := hwf i hi
  have hv : Hid (lvR rows i = if rows[i].k = 3 then 2 else if rows[i].k = 4 then 1 else if rows[i].k = 5 then (if isBot rows rows[i].r then (if isBot rows rows[i].l then 4 else 3) else 0) else 4) := Lib.hid (by rw [lvR, nodeAt_get rows i hi])
  obtain ⟨e0, e1, e2, e3⟩ := hc i hi
  have Hc := Lib.hid hc
  clear hc hT hwf
  generalize lvR rows i = v at *
  generalize rows[i] = d at *
  obtain ⟨k, s, l, r⟩ := d
  simp only at *
  have Hwi := Lib.hid hwi
  clear hwi
  have hi2 : (i : Int) < rows.length := by omega
  go_enter Tryz.func44, Tryz.ntmps44
  by_cases h3 : k = 3
  · have Hv := Lib.hid (hv.out.trans (by simp [h3] : _ = (2 : Int)))
    subst h3
    clear hv
    go_wp2_with fail
    go_ret
    exact ⟨ret_int Hv.out.symm, (Below.refl _ _).alloc (Nat.le_refl _) _⟩
  · have h3' : (k == 3) = false := beq_eq_false_iff_ne.2 h3
    by_cases h4 : k = 4
    · have Hv := Lib.hid (hv.out.trans (by simp [h4] : _ = (1 : Int)))
      subst h4
      clear hv h3 h3'
      go_wp2_with fail
      go_ret
      exact ⟨ret_int Hv.out.symm, (Below.refl _ _).alloc (Nat.le_refl _) _⟩
    · have h4' : (k == 4) = false := beq_eq_false_iff_ne.2 h4
      by_cases h5 : k = 5
      · subst h5
        have hw := Hwi.out (by simp)
        obtain ⟨hl0, hl1, hr0, hr1⟩ := hw
        obtain ⟨x, rfl⟩ := Int.eq_ofNat_of_zero_le hl0
        obtain ⟨y, rfl⟩ := Int.eq_ofNat_of_zero_le hr0
        have hx : x < rows.length := by omega
        have hy : y < rows.length := by omega
        have hx2 : (x : Int) < rows.length := by omega
        have hy2 : (y : Int) < rows.length := by omega
        have bx : Hid (isBot rows x = decide (rows[x].k = 2)) := Lib.hid (by rw [isBot, nodeAt_get rows x hx])
        have bY : Hid (isBot rows y = decide (rows[y].k = 2)) := Lib.hid (by rw [isBot, nodeAt_get rows y hy])
        obtain ⟨x0, _, _, _⟩ := Hc.out x hx
        obtain ⟨y0, _, _, _⟩ := Hc.out y hy
        have hv2 := Lib.hid (hv.out.trans (by simp : _ = (if isBot rows y then (if isBot rows x then (4 : Int) else 3) else 0)))
        clear hv h3 h4 h3' h4'
        generalize rows[x].k = kx at *
        generalize rows[y].k = ky at *
        generalize isBot rows x = qx at *
        generalize isBot rows y = qy at *
        by_cases hky : ky = 2
        · have hyt : qy = true := by rw [bY.out]; simp [hky]
          subst hyt
          subst hky
          by_cases hkx : kx = 2
          · have hxt : qx = true := by rw [bx.out]; simp [hkx]
            subst hxt
            subst hkx
            go_wp2_with fail
            go_quiet (fail)
            go_wp2_with fail
            go_quiet (fail)
            go_wp2_with fail
            go_ret
            exact ⟨ret_int hv2.out.symm, below_drewN (below_drewN ((Below.refl _ _).alloc (Nat.le_refl _) _) _) _⟩
          · have hxt : qx = false := by rw [bx.out]; simp [hkx]
            subst hxt
            have hkx' : (kx == 2) = false := beq_eq_false_iff_ne.2 hkx
            go_wp2_with fail
            go_quiet (fail)
            go_wp2_with fail
            go_quiet (fail)
            go_wp2_with fail
            go_ret
            exact ⟨ret_int hv2.out.symm, below_drewN (below_drewN ((Below.refl _ _).alloc (Nat.le_refl _) _) _) _⟩
        · have hyt : qy = false := by rw [bY.out]; simp [hky]
          subst hyt
          have hky' : (ky == 2) = false := beq_eq_false_iff_ne.2 hky
          go_wp2_with fail
          go_quiet (fail)
          go_wp2_with fail
          go_ret
          exact ⟨ret_int hv2.out.symm, below_drewN ((Below.refl _ _).alloc (Nat.le_refl _) _) _⟩
      · have h5' : (k == 5) = false := beq_eq_false_iff_ne.2 h5
        have Hv := Lib.hid (hv.out.trans (by simp [h3, h4, h5] : _ = (4 : Int)))
        clear hv h3 h4 h5
        go_wp2_with fail
        go_ret
        exact ⟨ret_int Hv.out.symm, (Below.refl _ _).alloc (Nat.le_refl _) _⟩

def needL (k : Int) : Int := if k = 3 then 2 else 1
def needR (k : Int) : Int := if k = 3 then 3 else if k = 4 then 2 else 0
theorem needs04 (w : World) (k : Int) :
    Calls Tryz.prog 46 #[.int .i64 k] w fun e w' => e = .returned (.tuple #[.int .i64 (needL k), .int .i64 (needR k)]) ∧ w = w' := by
  go_enter Tryz.func46, Tryz.ntmps46
  by_cases h3 : k = 3
  · subst h3
    go_wp2_with fail
    go_ret2
    exact ⟨rfl, rfl⟩
  · have h3' : (k == 3) = false := beq_eq_false_iff_ne.2 h3
    by_cases h4 : k = 4
    · subst h4
      go_wp2_with fail
      go_ret2
      exact ⟨rfl, rfl⟩
    · have h4' : (k == 4) = false := beq_eq_false_iff_ne.2 h4
      have e1 : needL k = 1 := by simp [needL, h3]
      have e2 : needR k = 0 := by simp [needR, h3, h4]
      rw [e1, e2]
      go_wp2_with fail
      go_ret2
      exact ⟨rfl, rfl⟩

theorem round04 (w : World) (p : Nat) (rows : List Nd) (F : Nat → Prop) (id want : Int) (hT : RT w p rows F) (hl : rows.length ≤ 1024) (hwf : wfR rows) (h0 : 0 ≤ id) (h1 : id < rows.length) (hw3 : want ≤ 3) :
    Calls Tryz.prog 45 #[.pointer (some ⟨p, 0, none⟩), .int .i64 id, .int .i64 want] w fun e w' => e = .returned (.int .i64 (rd2 rows id want : Nat)) ∧ Below w.heap.size w w' := by
  have hlt := lvR_lt rows id want hw3
  have Hrd := Lib.hid (show rd2 rows id want = if lvl rows id < want then 2 else 0 from rfl)
  generalize rd2 rows id want = v at *
  go_enter Tryz.func45, Tryz.ntmps45
  go_wp2_with fail
  refine (level04 w p rows F id hT hl hwf h0 h1).mono ?_
  rintro e w1 ⟨rfl, hb⟩
  have HB := Lib.hid hb
  clear hb
  by_cases hq : lvl rows id < want
  · have h2 : lvR rows id < want := by simpa [hq] using hlt
    have Hv := Lib.hid (Hrd.out.trans (if_pos hq))
    clear hlt Hrd
    go_wp2_with fail
    go_ret
    exact ⟨by rw [Hv.out]; rfl, HB.out⟩
  · have h2 : ¬ lvR rows id < want := by simpa [hq] using hlt
    have Hv := Lib.hid (Hrd.out.trans (if_neg hq))
    clear hlt Hrd
    go_wp2_with fail
    go_ret
    exact ⟨by rw [Hv.out]; rfl, HB.out⟩
end Go.Proofs.YtglnmkdlcbkpeaaGreatDoor
/- The reference's Print: part, text. -/
set_option linter.unusedVariables false
set_option linter.unusedSimpArgs false
namespace Go.Proofs.YtglnmkdlcbkpeaaGreatDoor
open Go.RowKit

def TextC (rows : List Nd) (id : Int) : Prop := ∀ (w : World) (p : Nat) (F : Nat → Prop), RT w p rows F → (bare rows id).length ≤ 1099511627776 → Calls Tryz.prog 24 #[.pointer (some ⟨p, 0, none⟩), .int .i64 id] w fun e w' => e = .returned (.string ⟨(bare rows id).toArray⟩) ∧ Below w.heap.size w w'
theorem ba_app (a b : List UInt8) : (⟨a.toArray⟩ : ByteArray) ++ ⟨b.toArray⟩ = ⟨(a ++ b).toArray⟩ := by
  have : ((⟨a.toArray⟩ : ByteArray) ++ ⟨b.toArray⟩).data = (⟨(a ++ b).toArray⟩ : ByteArray).data := by simp [ByteArray.data_append]
  exact ByteArray.ext this
theorem part_of (rows : List Nd) (hl : rows.length ≤ 1024) (hwf : wfR rows) (id : Int) (h0 : 0 ≤ id) (h1 : id < rows.length) (hC : TextC rows id) (want : Int) (hw3 : want ≤ 3) (w : World) (p : Nat) (F : Nat → Prop) (hT : RT w p rows F) (hlen : (bare rows id).length ≤ 1099511627776) :
    Calls Tryz.prog 47 #[.pointer (some ⟨p, 0, none⟩), .int .i64 id, .int .i64 want] w fun e w' => e = .returned (.string ⟨(tx rows id want).toArray⟩) ∧ Below w.heap.size w w' := by
  have hlt := lvR_lt rows id want hw3
  have Htx := Lib.hid (tx_bare hwf id want h0 h1)
  have HT := Lib.hid hT
  have Hwf := Lib.hid hwf
  have HC := Lib.hid hC
  clear hT hwf hC
  generalize tx rows id want = v at *
  go_enter Tryz.func47, Tryz.ntmps47
  go_wp2_with fail
  refine (HC.out w p F HT.out hlen).mono ?_
  rintro e w1 ⟨rfl, hb⟩
  have HB := Lib.hid hb
  clear hb
  go_wp2_with fail
  refine (level04 w1 p rows F id (HT.out.below HB.out) hl Hwf.out h0 h1).mono ?_
  rintro e w2 ⟨rfl, hb⟩
  have HB2 := Lib.hid (HB.out.trans (hb.mono HB.out.size))
  clear hb
  by_cases hq : lvl rows id < want
  · have h2 : lvR rows id < want := by simpa [hq] using hlt
    have Hv := Lib.hid (Htx.out.trans (by simp [hq] : _ = roundT true (bare rows id)))
    clear hlt Htx
    go_wp2_with fail
    go_ret
    refine ⟨?_, HB2.out⟩
    rw [Hv.out]
    show Ending.returned (.string ((⟨[40].toArray⟩ : ByteArray) ++ ⟨(bare rows id).toArray⟩ ++ ⟨[41].toArray⟩)) = _
    rw [ba_app, ba_app]
    rfl
  · have h2 : ¬ lvR rows id < want := by simpa [hq] using hlt
    have Hv := Lib.hid (Htx.out.trans (by simp [hq] : _ = roundT false (bare rows id)))
    clear hlt Htx
    go_wp2_with fail
    go_ret
    exact ⟨by rw [Hv.out]; rfl, HB2.out⟩

theorem bare_eq {rows : List Nd} (hw : wfR rows) (id : Int) (h0 : 0 ≤ id) (h1 : id < rows.length) :
    bare rows id = joinT (pcs rows (nodeAt rows id)).1.data.toList (((pcs rows (nodeAt rows id)).2.1.zip (pcs rows (nodeAt rows id)).2.2).map fun x => tx rows x.1 x.2) := by
  rw [bare, tx_eq hw id (-1) h0 h1]
  have := lvl_nonneg rows id
  have h : decide (lvl rows id < -1) = false := by simp; omega
  rw [h]
  rfl
theorem tx_len {rows : List Nd} (hw : wfR rows) (id want : Int) (h0 : 0 ≤ id) (h1 : id < rows.length) : (bare rows id).length ≤ (tx rows id want).length := by
  rw [tx_bare hw id want h0 h1, round_len]
  omega
/-- What the reference's text is, by a row's kind. -/
theorem bare_cases {rows : List Nd} (hw : wfR rows) (i : Nat) (hi : i < rows.length) (d : Nd) (hd : rows[i] = d) (hk : d.k = 1 ∨ d.k = 2 ∨ d.k = 3 ∨ d.k = 4 ∨ d.k = 5) :
    (d.k = 1 ∧ bare rows i = d.s.data.toList) ∨ (d.k = 2 ∧ bare rows i = sFalse.data.toList) ∨
    (d.k = 5 ∧ lvR rows i = 4 ∧ bare rows i = sTrue.data.toList) ∨
    (d.k = 5 ∧ lvR rows i = 3 ∧ (∃ x : Nat, d.l = x ∧ x < i) ∧ bare rows i = [126] ++ tx rows d.l 3) ∨
    (lvR rows i < 3 ∧ (∃ x y : Nat, d.l = x ∧ d.r = y ∧ x < i ∧ y < i) ∧ ((d.k = 3 ∧ bare rows i = tx rows d.l 2 ++ tAnd.data.toList ++ tx rows d.r 3) ∨ (d.k = 4 ∧ bare rows i = tx rows d.l 1 ++ tOr.data.toList ++ tx rows d.r 2) ∨ (d.k = 5 ∧ bare rows i = tx rows d.l 1 ++ tImp.data.toList ++ tx rows d.r 0))) := by
  have hb := bare_eq hw i (by omega) (by omega)
  have hwi := hw i hi
  have hv : lvR rows i = if d.k = 3 then 2 else if d.k = 4 then 1 else if d.k = 5 then (if isBot rows d.r then (if isBot rows d.l then 4 else 3) else 0) else 4 := by rw [lvR, nodeAt_get rows i hi, hd]
  rw [nodeAt_get rows i hi, hd] at hb
  rw [hd] at hwi
  unfold pcs at hb
  rcases hk with h | h | h | h | h
  · exact .inl ⟨h, by simpa [h, joinT] using hb⟩
  · exact .inr (.inl ⟨h, by simpa [h, joinT] using hb⟩)
  · obtain ⟨a1, a2, a3, a4⟩ := hwi (.inl h)
    exact .inr (.inr (.inr (.inr ⟨by rw [hv]; simp [h], ⟨d.l.toNat, d.r.toNat, by omega, by omega, by omega, by omega⟩, .inl ⟨h, by simpa [h, joinT] using hb⟩⟩)))
  · obtain ⟨a1, a2, a3, a4⟩ := hwi (.inr (.inl h))
    exact .inr (.inr (.inr (.inr ⟨by rw [hv]; simp [h], ⟨d.l.toNat, d.r.toNat, by omega, by omega, by omega, by omega⟩, .inr (.inl ⟨h, by simpa [h, joinT] using hb⟩)⟩)))
  · obtain ⟨a1, a2, a3, a4⟩ := hwi (.inr (.inr h))
    cases hr : isBot rows d.r with
    | true =>
      cases hl : isBot rows d.l with
      | true => exact .inr (.inr (.inl ⟨h, by rw [hv]; simp [h, hr, hl], by simpa [h, joinT, hr, hl] using hb⟩))
      | false => exact .inr (.inr (.inr (.inl ⟨h, by rw [hv]; simp [h, hr, hl], ⟨d.l.toNat, by omega, by omega⟩, by simpa [h, joinT, hr, hl, sNot] using hb⟩)))
    | false => exact .inr (.inr (.inr (.inr ⟨by rw [hv]; simp [h, hr], ⟨d.l.toNat, d.r.toNat, by omega, by omega, by omega, by omega⟩, .inr (.inr ⟨h, by simpa [h, joinT, hr] using hb⟩)⟩)))
end Go.Proofs.YtglnmkdlcbkpeaaGreatDoor
/- The reference's Print: text. -/
set_option linter.unusedVariables false
set_option linter.unusedSimpArgs false
namespace Go.Proofs.YtglnmkdlcbkpeaaGreatDoor
open Go.RowKit

/-- Rows' kinds are those of formulas. -/
def kdR (rows : List Nd) : Prop := ∀ i (h : i < rows.length), rows[i].k = 1 ∨ rows[i].k = 2 ∨ rows[i].k = 3 ∨ rows[i].k = 4 ∨ rows[i].k = 5
theorem fits_ok {rows : List Nd} (h : okRows rows) (i : Nat) (hi : i < rows.length) : fitsN i rows[i] = 0 := by
  have h1 := h i hi
  rw [okAt] at h1
  have hl : (rows.take i).length = i := by rw [List.length_take]; omega
  by_cases hf : fitsN (rows.take i).length rows[i] = 0
  · rwa [hl] at hf
  · rw [putR_unfit hf] at h1
    have := congrArg (fun x => x.2.1) h1
    exact absurd this hf
theorem kd_of_ok {rows : List Nd} (h : okRows rows) : kdR rows := by
  intro i hi
  have hf := fits_ok h i hi
  unfold fitsN at hf
  split at hf
  · rename_i h; exact .inl h
  · split at hf
    · rename_i h; exact .inr (.inl h)
    · split at hf
      · rename_i h; exact .inr (.inr h)
      · omega
theorem sz_of_ok {rows : List Nd} (h : okRows rows) : szR rows := by
  intro i hi
  have hf := fits_ok h i hi
  unfold fitsN at hf
  have hz : ∀ s : ByteArray, s.toList = [] → s.size ≤ 31 := fun s h => by rw [toList_nil] at h; omega
  split at hf
  · split at hf
    · omega
    · split at hf
      · rename_i hw
        unfold wordB at hw
        simp only [Bool.and_eq_true, decide_eq_true_eq] at hw
        exact hw.1.2
      · omega
  · split at hf
    · split at hf
      · rename_i h; exact hz _ h.1
      · omega
    · split at hf
      · split at hf
        · rename_i h; exact hz _ h.1
        · omega
      · omega

set_option maxRecDepth 100000 in
set_option maxHeartbeats 4000000 in
theorem text04 (rows : List Nd) (hwf : wfR rows) (hkd : kdR rows) (hl : rows.length ≤ 1024) : ∀ (n i : Nat), i < n → i < rows.length → TextC rows i := by
  intro n
  induction n with
  | zero => intro i h; omega
  | succ n ih =>
    intro i hin hi w p F hT hlen
    have hcs := bare_cases hwf i hi rows[i] rfl (hkd i hi)
    have hpart : Hid (∀ (x : Nat), x < i → ∀ (want : Int), want ≤ 3 → ∀ (W : World), Below w.heap.size w W → (tx rows x want).length ≤ 1099511627776 → Calls Tryz.prog 47 #[.pointer (some ⟨p, 0, none⟩), .int .i64 x, .int .i64 want] W fun e w' => e = .returned (.string ⟨(tx rows x want).toArray⟩) ∧ Below W.heap.size W w') :=
      Lib.hid fun x hx want h3 W hb h4 => part_of rows hl hwf x (by omega) (by omega) (ih x (by omega) (by omega)) want h3 W p F (hT.below hb) (Nat.le_trans (tx_len hwf x want (by omega) (by omega)) h4)
    have Hlev : Hid (∀ W : World, Below w.heap.size w W → Calls Tryz.prog 44 #[.pointer (some ⟨p, 0, none⟩), .int .i64 i] W fun e w' => e = .returned (.int .i64 (lvR rows i)) ∧ Below W.heap.size W w') :=
      Lib.hid fun W hb => level04 W p rows F i (hT.below hb) hl hwf (by omega) (by omega)
    obtain ⟨b, c, c0, hp, hbl, hc⟩ := rt_at hT hl i hi
    obtain ⟨e0, e1, e2, e3⟩ := hc i hi
    clear hc hT hwf ih
    generalize hbr : bare rows i = v at *
    generalize lvR rows i = lv at *
    generalize rows[i] = d at *
    obtain ⟨k, s, l, r⟩ := d
    simp only at *
    have hi2 : (i : Int) < rows.length := by omega
    clear hbr
    rcases hcs with ⟨rfl, hv⟩ | ⟨rfl, hv⟩ | ⟨rfl, rfl, hv⟩ | ⟨rfl, rfl, ⟨x, rfl, hx⟩, hv⟩ | ⟨hlv, ⟨x, y, rfl, rfl, hx, hy⟩, hv⟩
    · have Hv := Lib.hid hv
      clear hv
      go_enter Tryz.func24, Tryz.ntmps24
      go_wp2_with fail
      go_ret
      exact ⟨by rw [Hv.out]; rfl, (Below.refl _ _).alloc (Nat.le_refl _) _⟩
    · have Hv := Lib.hid hv
      clear hv
      go_enter Tryz.func24, Tryz.ntmps24
      go_wp2_with fail
      go_ret
      exact ⟨by rw [Hv.out]; rfl, (Below.refl _ _).alloc (Nat.le_refl _) _⟩
    · have Hv := Lib.hid hv
      clear hv
      go_enter Tryz.func24, Tryz.ntmps24
      go_wp2_with fail
      refine (Hlev.out _ ((Below.refl _ _).alloc (Nat.le_refl _) _)).mono ?_
      rintro e w1 ⟨rfl, hb1⟩
      have HB1 := Lib.hid (below_tail hb1)
      clear hb1
      go_wp2_with fail
      go_ret
      exact ⟨by rw [Hv.out]; rfl, HB1.out⟩
    · have Hv := Lib.hid hv
      have hl2 : (tx rows x 3).length + 1 ≤ 1099511627776 := by rw [hv] at hlen; simp at hlen; omega
      clear hv
      go_enter Tryz.func24, Tryz.ntmps24
      go_wp2_with fail
      refine (Hlev.out _ ((Below.refl _ _).alloc (Nat.le_refl _) _)).mono ?_
      rintro e w1 ⟨rfl, hb1⟩
      have HX1 := Lib.hid (blk_below' (blk_new w _) hb1)
      have HB1 := Lib.hid (below_tail hb1)
      clear hb1
      go_wp2_with fail
      refine (Hlev.out _ HB1.out).mono ?_
      rintro e w2 ⟨rfl, hb2⟩
      have HX2 := Lib.hid (blk_below' HX1.out hb2)
      have HB2 := Lib.hid (HB1.out.trans (hb2.mono HB1.out.size))
      have x2 : w2.cell? ⟨w.heap.size, 2, none⟩ = some (.int .i64 x) := (blk_cell HX2.out 2).trans rfl
      clear hb2
      go_wp2_with fail
      refine (hpart.out x hx 3 (by omega) w2 HB2.out (by omega)).mono ?_
      rintro e w3 ⟨rfl, hb3⟩
      have HB3 := Lib.hid (HB2.out.trans (hb3.mono HB2.out.size))
      clear hb3 x2
      have hz : (⟨(tx rows x 3).toArray⟩ : ByteArray).size = (tx rows x 3).length := by simp [ByteArray.size]
      go_wp2_with fail
      go_ret
      exact ⟨by rw [Hv.out]; show Ending.returned (.string ((⟨[126].toArray⟩ : ByteArray) ++ ⟨(tx rows x 3).toArray⟩)) = _; rw [ba_app], HB3.out⟩
    · have l4 : (lv == 4) = false := by simp; omega
      have l3 : (lv == 3) = false := by simp; omega
      rcases hv with ⟨rfl, hv⟩ | ⟨rfl, hv⟩ | ⟨rfl, hv⟩
      · have Hv := Lib.hid hv
        have hxy : (tx rows x 2).length + tAnd.size + (tx rows y 3).length ≤ 1099511627776 := by rw [hv] at hlen; simp only [List.length_append] at hlen; exact hlen
        have hts : tAnd.size = 3 := rfl
        rw [hts] at hxy
        have hn : ∀ W, Calls Tryz.prog 46 #[.int .i64 3] W fun e w' => e = .returned (.tuple #[.int .i64 2, .int .i64 3]) ∧ W = w' := fun W => needs04 W 3
        clear hv hts
        go_enter Tryz.func24, Tryz.ntmps24
        go_wp2_with fail
        refine (Hlev.out _ ((Below.refl _ _).alloc (Nat.le_refl _) _)).mono ?_
        rintro e w1 ⟨rfl, hb1⟩
        have HX1 := Lib.hid (blk_below' (blk_new w _) hb1)
        have HB1 := Lib.hid (below_tail hb1)
        clear hb1
        go_wp2_with fail
        refine (Hlev.out _ HB1.out).mono ?_
        rintro e w2 ⟨rfl, hb2⟩
        have HX2 := Lib.hid (blk_below' HX1.out hb2)
        have HB2 := Lib.hid (HB1.out.trans (hb2.mono HB1.out.size))
        have x0 : w2.cell? ⟨w.heap.size, 0, none⟩ = some (.int .i64 3) := (blk_cell HX2.out 0).trans rfl
        have x2 : w2.cell? ⟨w.heap.size, 2, none⟩ = some (.int .i64 x) := (blk_cell HX2.out 2).trans rfl
        have x3 : w2.cell? ⟨w.heap.size, 3, none⟩ = some (.int .i64 y) := (blk_cell HX2.out 3).trans rfl
        clear hb2
        go_wp2_with fail
        refine (hn w2).mono ?_
        rintro e w3 ⟨rfl, rfl⟩
        clear hn
        go_wp2_with fail
        have hzx : (⟨(tx rows x 2).toArray⟩ : ByteArray).size = (tx rows x 2).length := by simp [ByteArray.size]
        have hzy : (⟨(tx rows y 3).toArray⟩ : ByteArray).size = (tx rows y 3).length := by simp [ByteArray.size]
        go_region_with ((first
          | (go_at_call 47; (with_reducible refine (hpart.out x hx 2 (by omega) _ ?_ ?_).mono ?_); exact HB2.out.drew; omega; rintro e w5 ⟨rfl, hb5⟩; have HB5 := Lib.hid (HB2.out.drew.trans (hb5.mono HB2.out.size)); have x5 : w5.cell? ⟨w.heap.size, 3, none⟩ = some (.int .i64 y) := (blk_cell (blk_below' (show (World.drew w2).heap[w.heap.size]? = _ from HX2.out) hb5) 3).trans rfl; clear hb5)
          | (go_at_call 47; (with_reducible refine (hpart.out y hy 3 (by omega) _ ?_ ?_).mono ?_); exact HB5.out; omega; rintro e w6 ⟨rfl, hb6⟩; have HB6 := Lib.hid (HB5.out.trans (hb6.mono HB5.out.size)); clear hb6)))
        all_goals
          go_wp2_with fail
          go_ret
          exact ⟨by rw [Hv.out]; show Ending.returned (.string ((⟨(tx rows x 2).toArray⟩ : ByteArray) ++ ⟨tAnd.data.toList.toArray⟩ ++ ⟨(tx rows y 3).toArray⟩)) = _; rw [ba_app, ba_app], HB6.out⟩
      · have Hv := Lib.hid hv
        have hxy : (tx rows x 1).length + tOr.size + (tx rows y 2).length ≤ 1099511627776 := by rw [hv] at hlen; simp only [List.length_append] at hlen; exact hlen
        have hts : tOr.size = 3 := rfl
        rw [hts] at hxy
        have hn : ∀ W, Calls Tryz.prog 46 #[.int .i64 4] W fun e w' => e = .returned (.tuple #[.int .i64 1, .int .i64 2]) ∧ W = w' := fun W => needs04 W 4
        clear hv hts
        go_enter Tryz.func24, Tryz.ntmps24
        go_wp2_with fail
        refine (Hlev.out _ ((Below.refl _ _).alloc (Nat.le_refl _) _)).mono ?_
        rintro e w1 ⟨rfl, hb1⟩
        have HX1 := Lib.hid (blk_below' (blk_new w _) hb1)
        have HB1 := Lib.hid (below_tail hb1)
        clear hb1
        go_wp2_with fail
        refine (Hlev.out _ HB1.out).mono ?_
        rintro e w2 ⟨rfl, hb2⟩
        have HX2 := Lib.hid (blk_below' HX1.out hb2)
        have HB2 := Lib.hid (HB1.out.trans (hb2.mono HB1.out.size))
        have x0 : w2.cell? ⟨w.heap.size, 0, none⟩ = some (.int .i64 4) := (blk_cell HX2.out 0).trans rfl
        have x2 : w2.cell? ⟨w.heap.size, 2, none⟩ = some (.int .i64 x) := (blk_cell HX2.out 2).trans rfl
        have x3 : w2.cell? ⟨w.heap.size, 3, none⟩ = some (.int .i64 y) := (blk_cell HX2.out 3).trans rfl
        clear hb2
        go_wp2_with fail
        refine (hn w2).mono ?_
        rintro e w3 ⟨rfl, rfl⟩
        clear hn
        go_wp2_with fail
        have hzx : (⟨(tx rows x 1).toArray⟩ : ByteArray).size = (tx rows x 1).length := by simp [ByteArray.size]
        have hzy : (⟨(tx rows y 2).toArray⟩ : ByteArray).size = (tx rows y 2).length := by simp [ByteArray.size]
        go_region_with ((first
          | (go_at_call 47; (with_reducible refine (hpart.out x hx 1 (by omega) _ ?_ ?_).mono ?_); exact HB2.out.drew; omega; rintro e w5 ⟨rfl, hb5⟩; have HB5 := Lib.hid (HB2.out.drew.trans (hb5.mono HB2.out.size)); have x5 : w5.cell? ⟨w.heap.size, 3, none⟩ = some (.int .i64 y) := (blk_cell (blk_below' (show (World.drew w2).heap[w.heap.size]? = _ from HX2.out) hb5) 3).trans rfl; clear hb5)
          | (go_at_call 47; (with_reducible refine (hpart.out y hy 2 (by omega) _ ?_ ?_).mono ?_); exact HB5.out; omega; rintro e w6 ⟨rfl, hb6⟩; have HB6 := Lib.hid (HB5.out.trans (hb6.mono HB5.out.size)); clear hb6)))
        all_goals
          go_wp2_with fail
          go_ret
          exact ⟨by rw [Hv.out]; show Ending.returned (.string ((⟨(tx rows x 1).toArray⟩ : ByteArray) ++ ⟨tOr.data.toList.toArray⟩ ++ ⟨(tx rows y 2).toArray⟩)) = _; rw [ba_app, ba_app], HB6.out⟩
      · have Hv := Lib.hid hv
        have hxy : (tx rows x 1).length + tImp.size + (tx rows y 0).length ≤ 1099511627776 := by rw [hv] at hlen; simp only [List.length_append] at hlen; exact hlen
        have hts : tImp.size = 4 := rfl
        rw [hts] at hxy
        have hn : ∀ W, Calls Tryz.prog 46 #[.int .i64 5] W fun e w' => e = .returned (.tuple #[.int .i64 1, .int .i64 0]) ∧ W = w' := fun W => needs04 W 5
        clear hv hts
        go_enter Tryz.func24, Tryz.ntmps24
        go_wp2_with fail
        refine (Hlev.out _ ((Below.refl _ _).alloc (Nat.le_refl _) _)).mono ?_
        rintro e w1 ⟨rfl, hb1⟩
        have HX1 := Lib.hid (blk_below' (blk_new w _) hb1)
        have HB1 := Lib.hid (below_tail hb1)
        clear hb1
        go_wp2_with fail
        refine (Hlev.out _ HB1.out).mono ?_
        rintro e w2 ⟨rfl, hb2⟩
        have HX2 := Lib.hid (blk_below' HX1.out hb2)
        have HB2 := Lib.hid (HB1.out.trans (hb2.mono HB1.out.size))
        have x0 : w2.cell? ⟨w.heap.size, 0, none⟩ = some (.int .i64 5) := (blk_cell HX2.out 0).trans rfl
        have x2 : w2.cell? ⟨w.heap.size, 2, none⟩ = some (.int .i64 x) := (blk_cell HX2.out 2).trans rfl
        have x3 : w2.cell? ⟨w.heap.size, 3, none⟩ = some (.int .i64 y) := (blk_cell HX2.out 3).trans rfl
        clear hb2
        go_wp2_with fail
        refine (hn w2).mono ?_
        rintro e w3 ⟨rfl, rfl⟩
        clear hn
        go_wp2_with fail
        have hzx : (⟨(tx rows x 1).toArray⟩ : ByteArray).size = (tx rows x 1).length := by simp [ByteArray.size]
        have hzy : (⟨(tx rows y 0).toArray⟩ : ByteArray).size = (tx rows y 0).length := by simp [ByteArray.size]
        go_region_with ((first
          | (go_at_call 47; (with_reducible refine (hpart.out x hx 1 (by omega) _ ?_ ?_).mono ?_); exact HB2.out.drew; omega; rintro e w5 ⟨rfl, hb5⟩; have HB5 := Lib.hid (HB2.out.drew.trans (hb5.mono HB2.out.size)); have x5 : w5.cell? ⟨w.heap.size, 3, none⟩ = some (.int .i64 y) := (blk_cell (blk_below' (show (World.drew w2).heap[w.heap.size]? = _ from HX2.out) hb5) 3).trans rfl; clear hb5)
          | (go_at_call 47; (with_reducible refine (hpart.out y hy 0 (by omega) _ ?_ ?_).mono ?_); exact HB5.out; omega; rintro e w6 ⟨rfl, hb6⟩; have HB6 := Lib.hid (HB5.out.trans (hb6.mono HB5.out.size)); clear hb6)))
        all_goals
          go_wp2_with fail
          go_ret
          exact ⟨by rw [Hv.out]; show Ending.returned (.string ((⟨(tx rows x 1).toArray⟩ : ByteArray) ++ ⟨tImp.data.toList.toArray⟩ ++ ⟨(tx rows y 0).toArray⟩)) = _; rw [ba_app, ba_app], HB6.out⟩
end Go.Proofs.YtglnmkdlcbkpeaaGreatDoor
