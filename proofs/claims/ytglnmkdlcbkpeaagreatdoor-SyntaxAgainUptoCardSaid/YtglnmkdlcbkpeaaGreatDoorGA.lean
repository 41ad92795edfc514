/-
  Package syntax: what ahead and Count answer.
-/
import Derived.Test.YtglnmkdlcbkpeaaGreatDoorGU
import Derived.Test.YtglnmkdlcbkpeaaGreatDoorGS
/- token: plain laws of Scan. -/
set_option linter.unusedVariables false
set_option linter.unusedSimpArgs false
namespace Go.Proofs.YtglnmkdlcbkpeaaGreatDoor
open Go.RowKit

theorem skipP_ok (s : ByteArray) (e : Nat) (he : e ≤ s.size) : ∀ (f : Nat) (p : Sp), SpOk s p → SpOk s (skipP s e f p) ∧ p.o ≤ (skipP s e f p).o := by
  intro f
  induction f with
  | zero => intro p h; exact ⟨h, Nat.le_refl _⟩
  | succ f ih =>
    intro p h
    rw [skipP]
    split
    · rename_i hlt
      obtain ⟨h1, h2⟩ := ih _ (stepS_ok s p (by omega) h)
      exact ⟨h1, Nat.le_trans (Nat.le_of_lt (stepS_o s p (by omega)).1) h2⟩
    · exact ⟨h, Nat.le_refl _⟩
theorem spaceP_ok (s : ByteArray) : ∀ (f : Nat) (p : Sp), SpOk s p → SpOk s (spaceP s f p) ∧ p.o ≤ (spaceP s f p).o := by
  intro f
  induction f with
  | zero => intro p h; exact ⟨h, Nat.le_refl _⟩
  | succ f ih =>
    intro p h
    rw [spaceP]
    cases hb : blankN (s.data.toList.drop p.o) with
    | none => exact ⟨h, Nat.le_refl _⟩
    | some n =>
      obtain ⟨h1, h2, h3⟩ := blankN_le s p.o n hb
      obtain ⟨k1, k2⟩ := skipP_ok s (p.o + n) h3 n p h
      obtain ⟨k3, k4⟩ := ih (skipQ s p n) k1
      exact ⟨k3, Nat.le_trans k2 k4⟩
theorem signP_size (s : ByteArray) : (signP s).1.size ≤ 3 := by
  unfold signP
  cases h : sgB.find? (isPre s) with
  | some x =>
    have hm := List.mem_of_find?_eq_some h
    have : ∀ y ∈ sgB, y.size ≤ 3 := by decide +kernel
    exact this x hm
  | none =>
    simp only [runeSign]
    repeat' split
    all_goals (simp only; decide)
theorem wordP_size (s : ByteArray) (r : (Int × ByteArray) × Nat × Int) (h : wordP s = some r) : r.1.2.size ≤ s.size + 5 := by
  unfold wordP at h
  have h0 : noText.size = 0 := rfl
  have h4 : (⟨#[116, 114, 117, 101]⟩ : ByteArray).size = 4 := rfl
  have h5 : (⟨#[102, 97, 108, 115, 101]⟩ : ByteArray).size = 5 := rfl
  have hs := signP_size s
  split at h
  · cases h
  · split at h
    · split at h
      · cases h; simp only; omega
      · cases h; simp only [ByteArray.size_extract]; omega
    · split at h
      · split at h
        · cases h; simp only; omega
        · cases h; simp only; omega
      · split at h
        · cases h; simp only; omega
        · split at h
          · cases h; simp only; omega
          · split at h
            · cases h; simp only; omega
            · cases h; simp only; omega
theorem scanP_props (s : ByteArray) : ∀ (f : Nat) (p : Sp) (acc : List Tok) (ts : List Tok) (fl : Flt), scanP s f p acc = some (ts, fl) → SpOk s p → acc.length ≤ p.o → (∀ t ∈ acc, t.s.size ≤ s.size + 5) →
    0 ≤ fl.o ∧ fl.o ≤ s.size ∧ ts.length ≤ s.size + 1 ∧ (∀ t ∈ ts, t.s.size ≤ s.size + 5) := by
  intro f
  induction f with
  | zero => intro p acc ts fl h; simp [scanP] at h
  | succ f ih =>
    intro p acc ts fl h hp ha ht
    obtain ⟨k1, k2⟩ := spaceP_ok s (s.size + 1) p hp
    rw [scanP] at h
    try simp only at h
    change SpOk s (spaceQ s p) at k1
    change p.o ≤ (spaceQ s p).o at k2
    generalize spaceQ s p = q at *
    have hq := k1.2.2.2.2
    split at h
    · cases h
      refine ⟨Int.le_refl _, by simp [Flt.ok], by simp; omega, ?_⟩
      intro t hm
      rcases List.mem_append.1 hm with hm | hm
      · exact ht t hm
      · simp at hm
        subst hm
        show noText.size ≤ _
        exact Nat.zero_le _
    · rename_i hne
      split at h
      · cases h
      · rename_i r hr
        obtain ⟨w1, w2, w3⟩ := wordP_le _ r hr
        have w4 := wordP_size _ r hr
        rw [rest_size s q.o hq] at w1 w4
        split at h
        · cases h
          exact ⟨by simp, by simp; omega, by simp, by simp⟩
        · rename_i h0
          have w5 := w2 (by simpa using h0)
          have hn : q.o + r.2.1 ≤ s.size := by omega
          have hk := skipQ_o s q r.2.1 hn
          refine ih _ _ ts fl h (skipP_ok s (q.o + r.2.1) hn r.2.1 q k1).1 ?_ ?_
          · simp; omega
          · intro t hm
            rcases List.mem_append.1 hm with hm | hm
            · exact ht t hm
            · simp at hm
              subst hm
              simp only
              omega
theorem scanQ_props (s : ByteArray) (ts : List Tok) (fl : Flt) (h : scanQ s = some (ts, fl)) : 0 ≤ fl.o ∧ fl.o ≤ s.size ∧ ts.length ≤ s.size + 1 ∧ (∀ t ∈ ts, t.s.size ≤ s.size + 5) :=
  scanP_props s _ _ [] ts fl h ⟨by decide, by decide, by decide, by decide, Nat.zero_le _⟩ (Nat.le_refl _) (by simp)
end Go.Proofs.YtglnmkdlcbkpeaaGreatDoor
/- syntax: ahead. -/
set_option linter.unusedVariables false
set_option linter.unusedSimpArgs false
namespace Go.Proofs.YtglnmkdlcbkpeaaGreatDoor
open Go.RowKit

def atSpot (t : Tok) (f : Flt) : Tok := { t with l := f.l, c := f.c, o := f.o }
def setLast (ts : List Tok) (f : Flt) : List Tok := match ts.reverse with
  | [] => []
  | t :: r => r.reverse ++ [atSpot t f]
def aheadQ (s : ByteArray) : Option (List Tok × Flt) :=
  match scanQ s with
  | none => none
  | some (ts, f) => if f.e = 0 then some (ts, f) else
    match scanQ (s.extract 0 f.o.toNat) with
    | none => none
    | some (l, _) => some (setLast l f, f)

theorem own_put {w : World} {base g : Nat} {e : TypeId} {size n c : Nat} {xs : List Value} (h : w.ownsRow base e size (.slice (some ⟨g, 0, none⟩) n c) n xs) (j : Nat) (u : Value) (hj : j < xs.length) :
    (w.setCell ⟨g, j, none⟩ u).ownsRow base e size (.slice (some ⟨g, 0, none⟩) n c) n (xs.set j u) := by
  obtain ⟨h1, h2⟩ := h
  refine ⟨by simp [h1], ?_⟩
  rcases h2 with ⟨h2, h3⟩ | ⟨g', cap, cur, hv, hg, hh, h4, h5, h6, h7⟩
  · cases h2
  · cases hv
    refine .inr ⟨g, c, cur.setIfInBounds j u, rfl, hg, blk_set hh j u, h4, h5, by simpa using h6, ?_⟩
    rw [← h7, Array.toList_setIfInBounds, List.take_set]
theorem own_frozen {w : World} {base g : Nat} {e : TypeId} {size n c : Nat} {xs : List Value} (h : w.ownsRow base e size (.slice (some ⟨g, 0, none⟩) n c) n xs) (j : Nat) : w.frozen? ⟨g, j, none⟩ = false := by
  obtain ⟨cs, hc⟩ := own_typed h g rfl
  exact blk_frozen hc j
theorem set_last (r : List Tok) (t : Tok) (f : Flt) :
    (((toksCells (r ++ [t])).set (r.length * 6 + 3) (.int .i64 f.l)).set (r.length * 6 + 4) (.int .i64 f.c)).set (r.length * 6 + 5) (.int .i64 f.o) = toksCells (r ++ [atSpot t f]) := by
  rw [toksCells_append, toksCells_append, ← toksCells_length r]
  rw [List.set_append_right _ _ (by omega), List.set_append_right _ _ (by omega), List.set_append_right _ _ (by omega)]
  congr 1
  rw [show (toksCells r).length + 3 - (toksCells r).length = 3 from by omega, show (toksCells r).length + 4 - (toksCells r).length = 4 from by omega, show (toksCells r).length + 5 - (toksCells r).length = 5 from by omega]
  rfl

set_option maxRecDepth 100000 in
set_option maxHeartbeats 4000000 in
theorem ahead_any (s : ByteArray) (w : World) (ts : List Tok) (fl : Flt) (hs : s.size ≤ 1099511627000) (hT : Gl w) (hr : aheadQ s = some (ts, fl)) :
    Calls Tryz.prog 29 #[.string s] w (ScanPost w ts fl) := by
  have HT := Lib.hid hT
  clear hT
  unfold aheadQ at hr
  cases hq : scanQ s with
  | none => rw [hq] at hr; cases hr
  | some x =>
    obtain ⟨ts1, f1⟩ := x
    rw [hq] at hr
    simp only at hr
    obtain ⟨ho0, ho1, hlen, htok⟩ := scanQ_props s ts1 f1 hq
    have Hq := Lib.hid hq
    by_cases h0 : f1.e = 0
    · rw [if_pos h0] at hr
      have hr' := Option.some.inj hr
      obtain ⟨rfl, rfl⟩ : ts1 = ts ∧ f1 = fl := ⟨congrArg Prod.fst hr', congrArg Prod.snd hr'⟩
      have hz : (f1.e == 0) = true := by simp [h0]
      clear hr hr' hq htok h0
      go_enter Tryz.func29, Tryz.ntmps29
      go_wp2_with fail
      have hb0 := (Below.refl w.heap.size w).alloc (Nat.le_refl _) (.cells #[.int .i64 0, .int .i64 0, .int .i64 0, .int .i64 0] 40 (0, 0))
      refine (scan_any s _ ts1 f1 hs (HT.out.on hb0) Hq.out).mono ?_
      rintro e w1 ⟨a, c, rfl, ho, hb⟩
      have z1 := blk_below' (blk_new w _) hb
      obtain ⟨z0, z1', z2, z3, y0, y1, y2, y3⟩ := zero_flt z1
      have Z1 := Lib.hid z1
      have HB := Lib.hid (below_tail hb)
      have HO := Lib.hid (own_lower (base' := w.heap.size + 1) ho (by simp))
      have hz1 := blk_lt z1
      clear hb0 ho hb z1
      simp only [Flt.val]
      go_wp2_with fail
      generalize hW : World.alloc _ _ = w2
      have hb2 : Below w1.heap.size w1 w2 := by rw [← hW]; exact (Below.refl _ _).alloc (Nat.le_refl _) _
      have hx2 : w2.heap[w1.heap.size]? = some (.cells #[.int .i64 f1.e, .int .i64 f1.l, .int .i64 f1.c, .int .i64 f1.o] 40 (0, 0)) := by rw [← hW]; exact blk_new w1 _
      have hz2 := blk_below' Z1.out hb2
      have HX2 := Lib.hid hx2
      have HZ2 := Lib.hid hz2
      have HB2 := Lib.hid (HB.out.trans (hb2.mono HB.out.size))
      have HO2 := Lib.hid (own_move HO.out (fun k hk => by obtain ⟨cs, h⟩ := own_typed HO.out k hk; exact hb2.block k (blk_lt h)))
      clear hb2 hW z0 z1' z2 z3 y0 y1 y2 y3
      obtain ⟨z0, z1', z2, z3, y0, y1, y2, y3⟩ := zero_flt hz2
      have x0 : w2.cell? ⟨w1.heap.size, 0, none⟩ = some (.int .i64 f1.e) := (blk_cell hx2 0).trans rfl
      have x1 : w2.cell? ⟨w1.heap.size, 1, none⟩ = some (.int .i64 f1.l) := (blk_cell hx2 1).trans rfl
      have x2 : w2.cell? ⟨w1.heap.size, 2, none⟩ = some (.int .i64 f1.c) := (blk_cell hx2 2).trans rfl
      have x3 : w2.cell? ⟨w1.heap.size, 3, none⟩ = some (.int .i64 f1.o) := (blk_cell hx2 3).trans rfl
      clear hz2 hx2
      go_region
      all_goals
        go_wp2_with fail
        generalize hW : World.drew _ = w3
        have hb3 : w3.heap[w.heap.size]? = some (.cells f1.arr 40 (0, 0)) := by rw [← hW]; exact set4 _ _ _ _ HZ2.out
        have hf3 : Fr (fun k => k = w.heap.size) w2 w3 := by rw [← hW]; exact (fr4 (S := fun k => k = w.heap.size) _ _ _ _ (Fr.refl _ w2) (fun _ => rfl)).drew
        have ho3 := own_move HO2.out (fun k hk => by obtain ⟨cs, h⟩ := own_typed HO2.out k hk; exact hf3.block k (blk_lt h) (by have := own_base HO2.out k hk; omega))
        have g0 : w3.cell? ⟨w.heap.size, 0, none⟩ = some (.int .i64 f1.e) := (blk_cell hb3 0).trans rfl
        have g1 : w3.cell? ⟨w.heap.size, 1, none⟩ = some (.int .i64 f1.l) := (blk_cell hb3 1).trans rfl
        have g2 : w3.cell? ⟨w.heap.size, 2, none⟩ = some (.int .i64 f1.c) := (blk_cell hb3 2).trans rfl
        have g3 : w3.cell? ⟨w.heap.size, 3, none⟩ = some (.int .i64 f1.o) := (blk_cell hb3 3).trans rfl
        have Hfin := Lib.hid (show ScanPost w ts1 f1 (.returned (.tuple #[.slice a ts1.length c, f1.val])) w3 from ⟨a, c, rfl, own_lower ho3 (Nat.le_succ _), Fr.toBelow HB2.out hf3 (fun i h => by omega) HB2.out.size⟩)
        clear hb3 hf3 ho3 hW
        exact bodyPost_ret (v := .tuple #[.slice a ts1.length c, f1.val]) (by simp [results, Tryz.results29, go_sem, Flt.val, g0, g1, g2, g3]) rfl Hfin.out
    · rw [if_neg h0] at hr
      have hz : (f1.e == 0) = false := by simp [h0]
      cases hq2 : scanQ (s.extract 0 f1.o.toNat) with
      | none => rw [hq2] at hr; cases hr
      | some x =>
        obtain ⟨l, f2⟩ := x
        rw [hq2] at hr
        have hr' := Option.some.inj hr
        obtain ⟨rfl, rfl⟩ : setLast l f1 = ts ∧ f1 = fl := ⟨congrArg Prod.fst hr', congrArg Prod.snd hr'⟩
        have hsz : (s.extract 0 f1.o.toNat).size ≤ 1099511627000 := by simp; omega
        obtain ⟨_, _, hlen2, _⟩ := scanQ_props _ l f2 hq2
        have Hq2 := Lib.hid hq2
        have ho2 : f1.o ≤ (s.size : Int) := ho1
        clear hr hr' hq htok h0 hq2
        go_enter Tryz.func29, Tryz.ntmps29
        go_wp2_with fail
        have hb0 := (Below.refl w.heap.size w).alloc (Nat.le_refl _) (.cells #[.int .i64 0, .int .i64 0, .int .i64 0, .int .i64 0] 40 (0, 0))
        refine (scan_any s _ ts1 f1 hs (HT.out.on hb0) Hq.out).mono ?_
        rintro e w1 ⟨a, c, rfl, ho, hb⟩
        have Z1 := Lib.hid (blk_below' (blk_new w _) hb)
        have HB := Lib.hid (below_tail hb)
        have hz1 := blk_lt Z1.out
        clear hb0 ho hb
        simp only [Flt.val]
        go_wp2_with fail
        generalize hW : World.alloc _ _ = w2
        have hb2 : Below w1.heap.size w1 w2 := by rw [← hW]; exact (Below.refl _ _).alloc (Nat.le_refl _) _
        have hx2 : w2.heap[w1.heap.size]? = some (.cells #[.int .i64 f1.e, .int .i64 f1.l, .int .i64 f1.c, .int .i64 f1.o] 40 (0, 0)) := by rw [← hW]; exact blk_new w1 _
        have hz2 := blk_below' Z1.out hb2
        have HB2 := Lib.hid (HB.out.trans (hb2.mono HB.out.size))
        have hs2 := HB2.out.size
        have hl2 := blk_lt hx2
        refine (scan_any (s.extract 0 f1.o.toNat) w2 l f2 hsz (HT.out.on HB2.out) Hq2.out).mono ?_
        rintro e w3 ⟨a2, c2, rfl, ho3, hb3⟩
        have hs3 := hb3.size
        have HX3 := Lib.hid (blk_below' hx2 hb3)
        have HZ3 := Lib.hid (blk_below' hz2 hb3)
        have HB3 := Lib.hid (HB2.out.trans (hb3.mono hs2))
        have HO3 := Lib.hid ho3
        clear hb2 hx2 hz2 hW ho3 hb3
        have x1 : w3.cell? ⟨w1.heap.size, 1, none⟩ = some (.int .i64 f1.l) := (blk_cell HX3.out 1).trans rfl
        have x2 : w3.cell? ⟨w1.heap.size, 2, none⟩ = some (.int .i64 f1.c) := (blk_cell HX3.out 2).trans rfl
        have x3 : w3.cell? ⟨w1.heap.size, 3, none⟩ = some (.int .i64 f1.o) := (blk_cell HX3.out 3).trans rfl
        rcases List.eq_nil_or_concat l with rfl | ⟨r, t, rfl⟩
        · have HX := HX3
          have HZ := HZ3
          have HBw := HB3
          have HOw := Lib.hid (own_lower (base' := w.heap.size + 1) HO3.out (by omega))
          clear x1 x2 x3
          simp only [Flt.val]
          go_wp2_with fail
          obtain ⟨z0, z1', z2, z3, y0, y1, y2, y3⟩ := zero_flt HZ.out
          have x0 : w3.cell? ⟨w1.heap.size, 0, none⟩ = some (.int .i64 f1.e) := (blk_cell HX.out 0).trans rfl
          have x1 : w3.cell? ⟨w1.heap.size, 1, none⟩ = some (.int .i64 f1.l) := (blk_cell HX.out 1).trans rfl
          have x2 : w3.cell? ⟨w1.heap.size, 2, none⟩ = some (.int .i64 f1.c) := (blk_cell HX.out 2).trans rfl
          have x3 : w3.cell? ⟨w1.heap.size, 3, none⟩ = some (.int .i64 f1.o) := (blk_cell HX.out 3).trans rfl
          have n1 : ¬ w1.heap.size = w.heap.size := by omega
          go_wp2_with fail
          go_region
          all_goals
            go_wp2_with fail
            generalize hW : World.drew _ = w9
            have hb3 : w9.heap[w.heap.size]? = some (.cells f1.arr 40 (0, 0)) := by rw [← hW]; exact set4 _ _ _ _ HZ.out
            have hf3 : Fr (fun k => k = w.heap.size) w3 w9 := by rw [← hW]; exact (fr4 (S := fun k => k = w.heap.size) _ _ _ _ (Fr.refl _ w3) (fun _ => rfl)).drew
            have ho3 := own_move HOw.out (fun k hk => by obtain ⟨cs, h⟩ := own_typed HOw.out k hk; exact hf3.block k (blk_lt h) (by have := own_base HOw.out k hk; omega))
            have g0 : w9.cell? ⟨w.heap.size, 0, none⟩ = some (.int .i64 f1.e) := (blk_cell hb3 0).trans rfl
            have g1 : w9.cell? ⟨w.heap.size, 1, none⟩ = some (.int .i64 f1.l) := (blk_cell hb3 1).trans rfl
            have g2 : w9.cell? ⟨w.heap.size, 2, none⟩ = some (.int .i64 f1.c) := (blk_cell hb3 2).trans rfl
            have g3 : w9.cell? ⟨w.heap.size, 3, none⟩ = some (.int .i64 f1.o) := (blk_cell hb3 3).trans rfl
            have Hfin := Lib.hid (show ScanPost w (setLast [] f1) f1 (.returned (.tuple #[.slice a2 (([] : List Tok).length) c2, f1.val])) w9 from ⟨a2, c2, rfl, own_lower (ho3) (Nat.le_succ _), Fr.toBelow HBw.out hf3 (fun i h => by omega) HBw.out.size⟩)
            clear hb3 hf3 ho3 hW
            exact bodyPost_ret (v := .tuple #[.slice a2 (([] : List Tok).length) c2, f1.val]) (by simp [results, Tryz.results29, go_sem, Flt.val, g0, g1, g2, g3]) rfl Hfin.out
        · rw [List.concat_eq_append] at *
          obtain ⟨g, rfl, hg⟩ := own_cell HO3.out (by simp)
          have hn1 : (r ++ [t]).length = r.length + 1 := by simp
          have hlr : (r ++ [t])[r.length]'(by simp) = t := by simp
          have c3 := hg (r.length * 6 + 3) _ ((toks_get (r ++ [t]) r.length (by simp) 3 (by omega)).trans (by rw [hlr]; rfl))
          have c4 := hg (r.length * 6 + 4) _ ((toks_get (r ++ [t]) r.length (by simp) 4 (by omega)).trans (by rw [hlr]; rfl))
          have c5 := hg (r.length * 6 + 5) _ ((toks_get (r ++ [t]) r.length (by simp) 5 (by omega)).trans (by rw [hlr]; rfl))
          have v3 : w3.frozen? ⟨g, r.length * 6 + 3, none⟩ = false := own_frozen HO3.out _
          have v4 : w3.frozen? ⟨g, r.length * 6 + 4, none⟩ = false := own_frozen HO3.out _
          have v5 : w3.frozen? ⟨g, r.length * 6 + 5, none⟩ = false := own_frozen HO3.out _
          rw [hn1] at hlen2
          have hgb := own_base HO3.out g rfl
          have HG := Lib.hid hg
          simp only [hn1, Flt.val]
          have Hn1 := Lib.hid hn1
          clear hg hlr hn1
          go_wp2_with fail
          generalize hW : World.setCell _ _ _ = w4
          have hf4 : Fr (fun k => k = g) w3 w4 := by rw [← hW]; exact (((Fr.refl (fun k => k = g) w3).setCell _ _ (fun _ => rfl)).setCell _ _ (fun _ => rfl)).setCell _ _ (fun _ => rfl)
          have ho4 : w4.ownsRow w2.heap.size 73 6 (.slice (some ⟨g, 0, none⟩) (r ++ [t]).length c2) (r ++ [t]).length (toksCells (r ++ [atSpot t f1])) := by
            rw [← hW, ← set_last]
            exact own_put (own_put (own_put HO3.out _ _ (by rw [toks_length, Hn1.out]; omega)) _ _ (by rw [List.length_set, toks_length, Hn1.out]; omega)) _ _ (by rw [List.length_set, List.length_set, toks_length, Hn1.out]; omega)
          rw [Hn1.out] at ho4
          have HX := Lib.hid (hf4.blk HX3.out (by omega))
          have HZ := Lib.hid (hf4.blk HZ3.out (by omega))
          have HBw := Lib.hid (Fr.toBelow HB3.out hf4 (fun i h => by omega) HB3.out.size)
          have HOw := Lib.hid (own_lower (base' := w.heap.size + 1) ho4 (by omega))
          have hsl : setLast (r ++ [t]) f1 = r ++ [atSpot t f1] := by simp [setLast]
          have Hsl := Lib.hid hsl
          clear hf4 ho4 hW hsl x1 x2 x3 c3 c4 c5 v3 v4 v5
          obtain ⟨z0, z1', z2, z3, y0, y1, y2, y3⟩ := zero_flt HZ.out
          have x0 : w4.cell? ⟨w1.heap.size, 0, none⟩ = some (.int .i64 f1.e) := (blk_cell HX.out 0).trans rfl
          have x1 : w4.cell? ⟨w1.heap.size, 1, none⟩ = some (.int .i64 f1.l) := (blk_cell HX.out 1).trans rfl
          have x2 : w4.cell? ⟨w1.heap.size, 2, none⟩ = some (.int .i64 f1.c) := (blk_cell HX.out 2).trans rfl
          have x3 : w4.cell? ⟨w1.heap.size, 3, none⟩ = some (.int .i64 f1.o) := (blk_cell HX.out 3).trans rfl
          have n1 : ¬ w1.heap.size = w.heap.size := by omega
          go_region
          all_goals
            go_wp2_with fail
            generalize hW : World.drew _ = w9
            have hb3 : w9.heap[w.heap.size]? = some (.cells f1.arr 40 (0, 0)) := by rw [← hW]; exact set4 _ _ _ _ HZ.out
            have hf3 : Fr (fun k => k = w.heap.size) w4 w9 := by rw [← hW]; exact (fr4 (S := fun k => k = w.heap.size) _ _ _ _ (Fr.refl _ w4) (fun _ => rfl)).drew
            have ho3 := own_move HOw.out (fun k hk => by obtain ⟨cs, h⟩ := own_typed HOw.out k hk; exact hf3.block k (blk_lt h) (by have := own_base HOw.out k hk; omega))
            have g0 : w9.cell? ⟨w.heap.size, 0, none⟩ = some (.int .i64 f1.e) := (blk_cell hb3 0).trans rfl
            have g1 : w9.cell? ⟨w.heap.size, 1, none⟩ = some (.int .i64 f1.l) := (blk_cell hb3 1).trans rfl
            have g2 : w9.cell? ⟨w.heap.size, 2, none⟩ = some (.int .i64 f1.c) := (blk_cell hb3 2).trans rfl
            have g3 : w9.cell? ⟨w.heap.size, 3, none⟩ = some (.int .i64 f1.o) := (blk_cell hb3 3).trans rfl
            have hl9 : (r ++ [atSpot t f1]).length = r.length + 1 := by simp
            have Hfin := Lib.hid (show ScanPost w (setLast (r ++ [t]) f1) f1 (.returned (.tuple #[.slice (some ⟨g, 0, none⟩) (r.length + 1) c2, f1.val])) w9 from by
              rw [Hsl.out]
              exact ⟨some ⟨g, 0, none⟩, c2, by rw [hl9], by rw [hl9]; exact own_lower ho3 (Nat.le_succ _), Fr.toBelow HBw.out hf3 (fun i h => by omega) HBw.out.size⟩)
            clear hb3 hf3 ho3 hW hl9
            exact bodyPost_ret (v := .tuple #[.slice (some ⟨g, 0, none⟩) (r.length + 1) c2, f1.val]) (by simp [results, Tryz.results29, go_sem, Flt.val, g0, g1, g2, g3]) rfl Hfin.out
end Go.Proofs.YtglnmkdlcbkpeaaGreatDoor
/- syntax: what Parse and Take hand to read. -/
set_option linter.unusedVariables false
set_option linter.unusedSimpArgs false
namespace Go.Proofs.YtglnmkdlcbkpeaaGreatDoor
open Go.RowKit

def wholeP (E : Env) (st : St) (be : Int) : Rs := (formQ E st).bind fun v st => if decide ((tokAt E.ts st.i).k ≠ 0) || decide (be ≠ 0) then failP E.ts st 41 else .ok v st
theorem kind_of (t : Tok) (W : World) : (Instr.field 73 t.val 0).run Tryz.prog W = .ok (.int .i64 t.k) W := by
  obtain ⟨k, s, n, l, c, o⟩ := t
  show (Instr.field 73 (.agg #[.int .i64 k, .string s, .int .i64 n, .int .i64 l, .int .i64 c, .int .i64 o]) 0).run Tryz.prog W = .ok (.int .i64 k) W
  kernel_rfl

/-- A block that the reader leaves alone. -/
def Env.far (E : Env) (b : Nat) : Prop := b < E.N ∧ ¬ E.F b ∧ b ≠ E.rb
theorem Env.far.not {E : Env} {b : Nat} (h : E.far b) : ¬ E.S b := by
  rintro (e | e | e)
  · exact h.2.2 e
  · exact h.2.1 e
  · exact absurd h.1 (by omega)

theorem RD.beside {w w' : World} {E : Env} {st : St} {ib : Nat} {x : Value} {t : TypeId} (h : RD w E st) (hf : Fr (fun k => k = ib) w w') (hfar : E.far ib) (hib : w.heap[ib]? = some (.cells #[x] t (0, 0))) : RD w' E st :=
  ⟨hf.blk h.rd (fun e => hfar.2.2 e.symm), h.tab.fr hf (fun k hk _ e => by
    subst e
    rcases hk with hk | hk
    · exact hfar.2.1 hk
    · exact absurd hfar.1 (by omega)), fun hn => by
    obtain ⟨b, off, e, h1, h2, h3, h4⟩ := h.toks hn
    refine ⟨b, off, e, h1, h2, h3, fun j u hu => (World.cell?_of_block (hf.block b (Nat.lt_of_lt_of_le h1 h.size) ?_)).trans (h4 j u hu)⟩
    intro e
    have h5 := h4 (0 * 6 + 5) _ ((toks_get E.ts 0 hn 5 (by omega)).trans rfl)
    rw [e, blk_cell hib] at h5
    simp at h5, Nat.le_trans h.size hf.size, h.rbF, h.rbN, h.len, h.tok, h.rows, h.nodup, h.i, h.names, h.nest⟩

set_option maxRecDepth 100000 in
set_option maxHeartbeats 4000000 in
theorem whole_any (w : World) (E : Env) (st : St) (rc ib bb : Nat) (be : Int) (x : Value) (h : RD w E st) (hrc : w.cell? ⟨rc, 0, none⟩ = some (.pointer (some ⟨E.rb, 0, none⟩))) (hib : w.heap[ib]? = some (.cells #[x] 3 (0, 0))) (hbb : w.cell? ⟨bb, 0, none⟩ = some (.int .i64 be))
    (h1 : E.far rc) (h2 : E.far ib) (h3 : E.far bb) (n1 : rc ≠ ib) (n2 : bb ≠ ib) :
    Calls Tryz.prog 32 #[.pointer (some ⟨rc, 0, none⟩), .pointer (some ⟨ib, 0, none⟩), .pointer (some ⟨bb, 0, none⟩)] w (WPost w E ib (wholeP E st be)) := by
  have H := Lib.hid h
  have Hib := Lib.hid hib
  have hsz := h.size
  have hrl : rc < w.heap.size := Nat.lt_of_lt_of_le h1.1 h.size
  have hil : ib < w.heap.size := Nat.lt_of_lt_of_le h2.1 h.size
  have hbl : bb < w.heap.size := Nat.lt_of_lt_of_le h3.1 h.size
  generalize hR : wholeP E st be = R
  unfold wholeP at hR
  have HR := Lib.hid hR
  have H1 := Lib.hid h1
  have H2 := Lib.hid h2
  have H3 := Lib.hid h3
  clear h hib hR h1 h2 h3
  go_enter Tryz.func32, Tryz.ntmps32
  go_wp2_with fail
  refine (formula_rd E st w H.out).mono ?_
  intro e w1 hp
  have hR := HR.out
  clear HR
  generalize formQ E st = r at hp hR
  cases r with
  | out => exact hp.elim
  | bad fl rws =>
    obtain ⟨rfl, p1, p2, p3⟩ := hp
    simp only [Rs.bind] at hR
    subst hR
    exact ⟨rfl, rfl, p1, p2.mono (fun _ _ h => .inl h), p3⟩
  | ok v st1 =>
    obtain ⟨rfl, p1, p2⟩ := hp
    simp only [Rs.bind] at hR
    have q0 : w1.cell? ⟨rc, 0, none⟩ = some (.pointer (some ⟨E.rb, 0, none⟩)) := (World.cell?_of_block (p2.block rc hrl H1.out.not)).trans hrc
    have qi := p2.blk Hib.out H2.out.not
    have q1 : w1.cell? ⟨ib, 0, none⟩ = some x := (blk_cell qi 0).trans rfl
    have q2 : w1.frozen? ⟨ib, 0, none⟩ = false := blk_frozen qi 0
    have q3 : w1.cell? ⟨bb, 0, none⟩ = some (.int .i64 be) := (World.cell?_of_block (p2.block bb hbl H3.out.not)).trans hbb
    have HR := Lib.hid hR
    have P1 := Lib.hid p1
    have P2 := Lib.hid p2
    have QI := Lib.hid qi
    clear p1 p2 hR qi hrc hbb
    go_wp2_with fail
    generalize hW : World.setCell _ _ _ = w2
    have hf2 : Fr (fun k => k = ib) w1 w2 := by rw [← hW]; exact (Fr.refl _ w1).setCell _ _ (fun _ => rfl)
    have R2 := Lib.hid (P1.out.beside hf2 H2.out QI.out)
    have hib2 : w2.heap[ib]? = some (.cells #[.int .i64 v] 3 (0, 0)) := by rw [← hW]; exact blk_set QI.out 0 _
    have I2 := Lib.hid hib2
    have F2 : Hid (Fr (fun k => E.S k ∨ k = ib) w w2) := Lib.hid (Fr.trans (P2.out.mono (fun _ _ h => .inl h)) hf2 (fun _ _ e => .inr e))
    have q4 : w2.cell? ⟨bb, 0, none⟩ = some (.int .i64 be) := (World.cell?_of_block (hf2.block bb (Nat.lt_of_lt_of_le hbl P2.out.size) n2)).trans q3
    have q5 : w2.cell? ⟨rc, 0, none⟩ = some (.pointer (some ⟨E.rb, 0, none⟩)) := (World.cell?_of_block (hf2.block rc (Nat.lt_of_lt_of_le hrl P2.out.size) n1)).trans q0
    have hs2 := hf2.size
    have hs1 := P2.out.size
    clear hf2 hib2 hW q0 q1 q2 q3
    refine (now_any w2 E st1 R2.out).mono ?_
    rintro e w3 ⟨rfl, hb⟩
    have R3 := Lib.hid (R2.out.below hb)
    have I3 := Lib.hid (blk_below' I2.out hb)
    have F3 : Hid (Fr (fun k => E.S k ∨ k = ib) w w3) := Lib.hid (F2.out.trans (Fr.of_below hb _) (fun _ _ h => h))
    have q6 : w3.cell? ⟨bb, 0, none⟩ = some (.int .i64 be) := World.cell?_below' hb q4
    have q7 : w3.cell? ⟨rc, 0, none⟩ = some (.pointer (some ⟨E.rb, 0, none⟩)) := World.cell?_below' hb q5
    have hk := kind_of (tokAt E.ts st1.i) w3
    simp only [Tok.val] at *
    clear hb q4 q5
    by_cases hk0 : (tokAt E.ts st1.i).k = 0
    · rw [hk0] at hk ⊢
      by_cases hb0 : be = 0
      · have hR := HR.out
        rw [if_neg (by simp [hk0, hb0])] at hR
        subst hR
        subst hb0
        clear HR hk0
        go_wp2_with fail
        go_end0
        exact ⟨rfl, R3.out, F3.out, I3.out⟩
      · have hR := HR.out
        rw [if_pos (by simp [hb0])] at hR
        have hb1 : (be != 0) = true := by simp [hb0]
        have HR2 := Lib.hid hR
        clear HR hk0 hR hb0
        go_wp2_with fail
        refine (fail_any w3 E st1 41 R3.out).mono ?_
        rintro e w4 ⟨rfl, hb⟩
        have hR := HR2.out
        subst hR
        exact ⟨rfl, rfl, R3.out.tab.below hb, F3.out.trans (Fr.of_below hb _) (fun _ _ h => h), R3.out.rows, R3.out.nodup, (R3.out.below hb).cells.1⟩
    · have hR := HR.out
      rw [if_pos (by simp [hk0])] at hR
      have hk1 : ((tokAt E.ts st1.i).k != 0) = true := by simp [hk0]
      have HR2 := Lib.hid hR
      clear HR hk0 hR
      go_wp2_with fail
      refine (fail_any w3 E st1 41 R3.out).mono ?_
      rintro e w4 ⟨rfl, hb⟩
      have hR := HR2.out
      subst hR
      exact ⟨rfl, rfl, R3.out.tab.below hb, F3.out.trans (Fr.of_below hb _) (fun _ _ h => h), R3.out.rows, R3.out.nodup, (R3.out.below hb).cells.1⟩
end Go.Proofs.YtglnmkdlcbkpeaaGreatDoor
/- syntax: what Take hands to read. -/
set_option linter.unusedVariables false
set_option linter.unusedSimpArgs false
namespace Go.Proofs.YtglnmkdlcbkpeaaGreatDoor
open Go.RowKit

set_option maxRecDepth 100000 in
set_option maxHeartbeats 4000000 in
theorem takeW_any (w : World) (E : Env) (st : St) (rc ib : Nat) (x : Value) (h : RD w E st) (hrc : w.cell? ⟨rc, 0, none⟩ = some (.pointer (some ⟨E.rb, 0, none⟩))) (hib : w.heap[ib]? = some (.cells #[x] 3 (0, 0)))
    (h1 : E.far rc) (h2 : E.far ib) :
    Calls Tryz.prog 48 #[.pointer (some ⟨rc, 0, none⟩), .pointer (some ⟨ib, 0, none⟩)] w (WPost w E ib (formQ E st)) := by
  have H := Lib.hid h
  have Hib := Lib.hid hib
  have hsz := h.size
  have hrl : rc < w.heap.size := Nat.lt_of_lt_of_le h1.1 h.size
  have hil : ib < w.heap.size := Nat.lt_of_lt_of_le h2.1 h.size
  have H1 := Lib.hid h1
  have H2 := Lib.hid h2
  have Hform := Lib.hid (formula_rd E st w h)
  generalize formQ E st = r at *
  clear h hib h1 h2
  go_enter Tryz.func48, Tryz.ntmps48
  go_wp2_with fail
  refine Hform.out.mono ?_
  intro e w1 hp
  cases r with
  | out => exact hp.elim
  | bad fl rws =>
    obtain ⟨rfl, p1, p2, p3⟩ := hp
    exact ⟨rfl, rfl, p1, p2.mono (fun _ _ h => .inl h), p3⟩
  | ok v st1 =>
    obtain ⟨rfl, p1, p2⟩ := hp
    have qi := p2.blk Hib.out H2.out.not
    have q1 : w1.cell? ⟨ib, 0, none⟩ = some x := (blk_cell qi 0).trans rfl
    have q2 : w1.frozen? ⟨ib, 0, none⟩ = false := blk_frozen qi 0
    have P1 := Lib.hid p1
    have P2 := Lib.hid p2
    have QI := Lib.hid qi
    clear p1 p2 qi hrc Hform
    go_wp2_with fail
    generalize hW : World.setCell _ _ _ = w2
    have hf2 : Fr (fun k => k = ib) w1 w2 := by rw [← hW]; exact (Fr.refl _ w1).setCell _ _ (fun _ => rfl)
    have R2 := Lib.hid (P1.out.beside hf2 H2.out QI.out)
    have hib2 : w2.heap[ib]? = some (.cells #[.int .i64 v] 3 (0, 0)) := by rw [← hW]; exact blk_set QI.out 0 _
    have I2 := Lib.hid hib2
    have F2 : Hid (Fr (fun k => E.S k ∨ k = ib) w w2) := Lib.hid (Fr.trans (P2.out.mono (fun _ _ h => .inl h)) hf2 (fun _ _ e => .inr e))
    clear hf2 hib2 hW
    go_end0
    exact ⟨rfl, R2.out, F2.out, I2.out⟩
end Go.Proofs.YtglnmkdlcbkpeaaGreatDoor
/- syntax: Count. -/
set_option linter.unusedVariables false
set_option linter.unusedSimpArgs false
namespace Go.Proofs.YtglnmkdlcbkpeaaGreatDoor
open Go.RowKit

def countL (ts : List Tok) : Nat := (ts.filter countT).length
theorem countL_take (ts : List Tok) (i : Nat) (h : i < ts.length) : countL (ts.take (i + 1)) = countL (ts.take i) + (if countT ts[i] then 1 else 0) := by
  rw [List.take_succ_eq_append_getElem h, countL, List.filter_append, List.length_append, countL]
  by_cases hc : countT ts[i] = true
  · simp [hc]
  · simp [hc]
theorem countL_le (ts : List Tok) : countL ts ≤ ts.length := List.length_filter_le _ _
theorem own_toks {w : World} {base c : Nat} {a : Option Addr} {ts : List Tok} (h : w.ownsRow base 73 6 (.slice a ts.length c) ts.length (toksCells ts)) (i : Nat) (hi : i < ts.length) :
    ∃ g, a = some ⟨g, 0, none⟩ ∧ g < w.heap.size ∧ base ≤ g ∧ w.cell? ⟨g, i * 6, none⟩ = some (.int .i64 ts[i].k) ∧ w.cell? ⟨g, i * 6 + 1, none⟩ = some (.string ts[i].s) ∧ w.cell? ⟨g, i * 6 + 2, none⟩ = some (.int .i64 ts[i].n) ∧
      w.cell? ⟨g, i * 6 + 3, none⟩ = some (.int .i64 ts[i].l) ∧ w.cell? ⟨g, i * 6 + 4, none⟩ = some (.int .i64 ts[i].c) ∧ w.cell? ⟨g, i * 6 + 5, none⟩ = some (.int .i64 ts[i].o) := by
  obtain ⟨g, rfl, hg⟩ := own_cell h (by omega)
  have hl : g < w.heap.size := by obtain ⟨cs, hc⟩ := own_typed h g rfl; exact blk_lt hc
  exact ⟨g, rfl, hl, own_base h g rfl, hg _ _ ((toks_get ts i hi 0 (by omega)).trans rfl), hg _ _ ((toks_get ts i hi 1 (by omega)).trans rfl), hg _ _ ((toks_get ts i hi 2 (by omega)).trans rfl), hg _ _ ((toks_get ts i hi 3 (by omega)).trans rfl), hg _ _ ((toks_get ts i hi 4 (by omega)).trans rfl), hg _ _ ((toks_get ts i hi 5 (by omega)).trans rfl)⟩
theorem aheadQ_props (s : ByteArray) (ts : List Tok) (fl : Flt) (h : aheadQ s = some (ts, fl)) : ts.length ≤ s.size + 1 ∧ (∀ t ∈ ts, t.s.size ≤ s.size + 5) := by
  unfold aheadQ at h
  cases hq : scanQ s with
  | none => rw [hq] at h; cases h
  | some x =>
    obtain ⟨ts1, f1⟩ := x
    rw [hq] at h
    simp only at h
    obtain ⟨h1, h2, h3, h4⟩ := scanQ_props s ts1 f1 hq
    split at h
    · cases h; exact ⟨h3, h4⟩
    · cases hq2 : scanQ (s.extract 0 f1.o.toNat) with
      | none => rw [hq2] at h; cases h
      | some y =>
        obtain ⟨l, f2⟩ := y
        rw [hq2] at h
        cases h
        obtain ⟨_, _, k3, k4⟩ := scanQ_props _ l f2 hq2
        have hsz : (s.extract 0 fl.o.toNat).size ≤ s.size := by simp; omega
        rcases List.eq_nil_or_concat l with rfl | ⟨r, t, rfl⟩
        · exact ⟨by simp [setLast], by simp [setLast]⟩
        · rw [List.concat_eq_append] at *
          have hsl : setLast (r ++ [t]) fl = r ++ [atSpot t fl] := by simp [setLast]
          rw [hsl]
          refine ⟨by simp at k3 ⊢; omega, fun u hu => ?_⟩
          rcases List.mem_append.1 hu with hu | hu
          · have := k4 u (by simp [hu]); omega
          · simp at hu
            subst hu
            have := k4 t (by simp)
            show t.s.size ≤ _
            omega

set_option maxRecDepth 100000 in
set_option maxHeartbeats 4000000 in
theorem count_any (s : ByteArray) (w : World) (ts : List Tok) (fl : Flt) (hs : s.size ≤ 1099511627000) (hT : Gl w) (hr : aheadQ s = some (ts, fl)) :
    Calls Tryz.prog 26 #[.string s] w fun e w' => e = .returned (.int .i64 (countL ts)) ∧ Below w.heap.size w w' := by
  have HT := Lib.hid hT
  have Hr := Lib.hid hr
  have hlen := (aheadQ_props s ts fl hr).1
  clear hT hr
  go_enter Tryz.func26, Tryz.ntmps26
  go_wp2_with fail
  refine (ahead_any s w ts fl hs HT.out Hr.out).mono ?_
  rintro e w1 ⟨a, c, rfl, ho, hb⟩
  have HO := Lib.hid ho
  have HB := Lib.hid hb
  have hs1 := hb.size
  clear ho hb
  simp only [Flt.val]
  go_wp2_with fail
  go_loopw [5, 15] (fun u v wr => ∃ i : Nat, i ≤ ts.length ∧ u = .int .i64 (countL (ts.take i)) ∧ v = .int .i64 i ∧ Below w1.heap.size w1 wr) (fun _ v _ => ts.length - (intOf v).toNat)
  case atStart =>
    exact ⟨0, by omega, rfl, rfl, (Below.refl _ _).alloc (Nat.le_refl _) _⟩
  case round =>
    obtain ⟨i, hi, rfl, rfl, hb⟩ := hrel
    obtain ⟨wo, rfl⟩ : ∃ wo : World, wo = wr := ⟨_, rfl⟩
    have HBo := Lib.hid hb
    have hcl := countL_le (ts.take i)
    rw [List.length_take] at hcl
    clear hb
    by_cases hlt : i < ts.length
    · have hlt2 : (i : Int) < ts.length := by omega
      have ho : wo.ownsRow w.heap.size 73 6 (.slice a ts.length c) ts.length (toksCells ts) := own_move HO.out (fun k hk => by obtain ⟨cs, h⟩ := own_typed HO.out k hk; exact HBo.out.block k (blk_lt h))
      obtain ⟨g, rfl, hgl, hgb, e0, e1, e2, e3, e4, e5⟩ := own_toks ho i hlt
      have Hc := Lib.hid (countL_take ts i hlt)
      generalize ts[i] = t at *
      clear ho
      go_wp2_with fail
      refine (counted_any _ t).mono ?_
      rintro e w3 ⟨rfl, hb⟩
      have HB3 := Lib.hid (HBo.out.trans ((below_tail hb).mono HBo.out.size))
      clear hb
      cases hct : countT t with
      | true =>
        have Hct := Lib.hid hct
        clear hct
        go_wp2_with fail
        exact ⟨⟨i + 1, by omega, by have := Hc.out; rw [Hct.out] at this; rw [this]; simp, by simp, HB3.out⟩, by simp [intOf]; omega⟩
      | false =>
        have Hct := Lib.hid hct
        clear hct
        go_wp2_with fail
        exact ⟨⟨i + 1, by omega, by have := Hc.out; rw [Hct.out] at this; rw [this]; simp, by simp, HB3.out⟩, by simp [intOf]; omega⟩
    · have hlt2 : ¬ (i : Int) < ts.length := by omega
      have ht : ts.take i = ts := List.take_of_length_le (by omega)
      rw [ht]
      go_wp2_with fail
      go_ret
      exact ⟨rfl, HB.out.trans (HBo.out.mono hs1)⟩
end Go.Proofs.YtglnmkdlcbkpeaaGreatDoor
/- syntax: plain: what gives up gives up with a code. -/
set_option linter.unusedVariables false
set_option linter.unusedSimpArgs false
namespace Go.Proofs.YtglnmkdlcbkpeaaGreatDoor
open Go.RowKit

def Bad : Rs → Prop
  | .bad f _ => f.e = 40 ∨ f.e = 41
  | _ => True
theorem Bad.bind {r : Rs} {k : Int → St → Rs} (h : Bad r) (hk : ∀ v st', Bad (k v st')) : Bad (r.bind k) := by
  cases r with
  | out => trivial
  | bad f rows => exact h
  | ok v st' => exact hk v st'
theorem bad_take (c : Bool) (ts : List Tok) (st : St) : Bad (takeP c ts st) := by
  unfold takeP
  split
  · split
    · exact .inl rfl
    · trivial
  · trivial
theorem bad_sign (c : Bool) (ts : List Tok) (st : St) (s : ByteArray) (no yes : St → Rs) (h1 : Bad (no st)) (h2 : ∀ st', Bad (yes st')) : Bad (signR c ts st s no yes) := by
  unfold signR
  split
  · exact (bad_take c ts st).bind (fun _ st' => h2 st')
  · exact h1
theorem bad_fail (ts : List Tok) (st : St) : Bad (failP ts st 41) := .inr rfl
theorem bad_single (c : Bool) (ts : List Tok) (P : Md → St → Rs) (hP : ∀ md st, Bad (P md st)) (st : St) : Bad (singleP c ts P st) := by
  unfold singleP
  simp only
  split
  · exact (bad_take _ _ _).bind fun _ st' => (hP _ _).bind fun _ st' => trivial
  · split
    · split
      · exact bad_fail _ _
      · exact (bad_take _ _ _).bind fun _ st' => (hP _ _).bind fun a st' => bad_sign _ _ _ _ _ _ (bad_fail _ _) fun st' => trivial
    · split
      · exact (bad_take _ _ _).bind fun _ st' => trivial
      · split
        · exact (bad_take _ _ _).bind fun _ st' => trivial
        · split
          · exact (bad_take _ _ _).bind fun _ st' => trivial
          · exact bad_fail _ _
theorem parse_bad (c : Bool) (ts : List Tok) : ∀ (f : Nat) (md : Md) (st : St), Bad (parseP c ts f md st) := by
  intro f
  induction f with
  | zero => intro md st; exact trivial
  | succ f ih =>
    intro md st
    cases md with
    | formula =>
      rw [parseP]
      exact (ih _ _).bind fun a st' => bad_sign _ _ _ _ _ _ trivial fun st' => (ih _ _).bind fun b st' => trivial
    | implied =>
      rw [parseP]
      exact (ih _ _).bind fun a st' => bad_sign _ _ _ _ _ _ trivial fun st' => (ih _ _).bind fun b st' => trivial
    | row lv =>
      rw [parseP]
      exact (ih _ _).bind fun a st' => ih _ _
    | rowL lv a =>
      rw [parseP]
      exact bad_sign _ _ _ _ _ _ trivial fun st' => (ih _ _).bind fun b st' => ih _ _
    | single =>
      rw [parseP]
      exact bad_single _ _ _ ih _
theorem whole_bad (E : Env) (st : St) (be : Int) : Bad (wholeP E st be) := by
  unfold wholeP
  refine (parse_bad _ _ _ _ _).bind fun v st' => ?_
  split
  · exact bad_fail _ _
  · trivial
theorem whole_ext (E : Env) (st : St) (be : Int) : Ext st (wholeP E st be) := by
  unfold wholeP
  refine (parse_ext _ _ _ _ _).bind fun v st' _ => ?_
  split
  · exact ext_fail _ _ _
  · exact ext_ok _ _
theorem whole_out (E : Env) (st : St) (be : Int) : wholeP E st be ≠ .out := by
  unfold wholeP
  refine bind_out (parse_fuel _ _ _ _ _ (Nat.lt_succ_self _)) fun v st' _ => ?_
  split
  · exact fail_out _ _ _
  · exact ok_out _ _

/-- The token at which a text has too many that count. -/
def firstBig : List Tok → Nat → Option Tok
  | [], _ => none
  | t :: ts, n => if countT t then (if 512 < n + 1 then some t else firstBig ts (n + 1)) else firstBig ts n
def st0 (rows : List Nd) : St := ⟨rows, 0, 0, 0, false⟩
def envT (c : Bool) (ts : List Tok) : Env := ⟨0, 0, none, 0, ts, c, 0, fun _ => False⟩
def outQ (rows : List Nd) (r : Rs) : Int × Flt × List Nd :=
  match r with
  | .ok v st => if st.full then (0, full30, rows) else (v, Flt.ok, st.rows)
  | .bad f _ => (0, f, rows)
  | .out => (0, Flt.ok, rows)
def parseT (rows : List Nd) (x : List Tok × Flt) : Int × Flt × List Nd :=
  match firstBig x.1 0 with
  | some t => (0, ⟨40, t.l, t.c, t.o⟩, rows)
  | none => outQ rows (wholeP (envT false x.1) (st0 rows) x.2.e)
def parseQ (rows : List Nd) (s : ByteArray) : Option (Int × Flt × List Nd) := (aheadQ s).map (parseT rows)
end Go.Proofs.YtglnmkdlcbkpeaaGreatDoor
