/-
  Package formula: what Copy and Cut leave, under the stated layout in memory.
-/
import Derived.Test.YtglnmkdlcbkpeaaGreatDoorGR
/- formula: Copy, and whether a call made a table. -/
set_option linter.unusedVariables false
set_option linter.unusedSimpArgs false
namespace Go.Proofs.YtglnmkdlcbkpeaaGreatDoor
open Go.RowKit

theorem findN_take {rows : List Nd} (hd : rows.Nodup) (i : Nat) (h : i < rows.length) : findN (rows.take i) rows[i] = none := by
  rw [findN, List.findIdx?_eq_none_iff]
  intro x hx
  obtain ⟨j, hj, rfl⟩ := List.getElem_of_mem hx
  have hj2 : j < i := by rw [List.length_take] at hj; omega
  simp only [List.getElem_take, decide_eq_false_iff_not]
  intro e
  exact absurd e (fun e => (List.pairwise_iff_getElem.1 hd j i (by omega) h hj2) e.symm)
theorem cellsOf_take (rows : List Nd) (i : Nat) (h : i < rows.length) : cellsOf (rows.take i) ++ rows[i].cells = cellsOf (rows.take (i + 1)) := by
  rw [List.take_succ_eq_append_getElem h, cellsOf_append]; simp [cellsOf]
set_option maxRecDepth 100000 in
set_option maxHeartbeats 4000000 in
theorem copy_tab (w : World) (p : Nat) (rows : List Nd) (F : Nat → Prop) (hT : Tab w p rows F) (hl : rows.length ≤ 1024) (hd : rows.Nodup) :
    Calls Tryz.prog 38 #[.pointer (some ⟨p, 0, none⟩)] w fun e w' => e = .returned (.pointer (some ⟨w.heap.size + 1, 0, none⟩)) ∧ Tab w' (w.heap.size + 1) rows (fun k => w.heap.size ≤ k) ∧ Below w.heap.size w w' := by
  obtain ⟨m, a, c, es, cl, h1, h2, h3, h4, h5, h6, h7⟩ := hT
  have hp := blk_lt h1
  have c0 : w.cell? ⟨p, 0, none⟩ = some (.slice a rows.length c) := (blk_cell h1 0).trans rfl
  have c1 : w.cell? ⟨p, 1, none⟩ = some (.map (some m)) := (blk_cell h1 1).trans rfl
  have H1 := Lib.hid h1
  have H2 := Lib.hid h2
  have Hd := Lib.hid hd
  clear h1 h2 h3 h4 h7 hd
  go_enter Tryz.func38, Tryz.ntmps38
  go_wp2_with fail
  refine (alive_some p m _ c1).mono ?_
  rintro e w1 ⟨rfl, rfl⟩
  go_wp2_with fail
  refine (new_any w).mono ?_
  rintro e w1 ⟨rfl, hN, hb⟩
  have HN := Lib.hid hN
  have HB := Lib.hid hb
  have d0 : w1.cell? ⟨p, 0, none⟩ = some (.slice a rows.length c) := (blk_cell (blk_below' H1.out hb) 0).trans rfl
  clear hN hb c0 c1
  go_wp2_with fail
  go_loopw [15] (fun v wr => ∃ i : Nat, i ≤ rows.length ∧ v = .int .i64 i ∧ Tab wr (w.heap.size + 1) (rows.take i) (fun k => w.heap.size ≤ k) ∧ Below w.heap.size w wr) (fun v _ => rows.length - (intOf v).toNat)
  case atStart =>
    exact ⟨0, by omega, rfl, HN.out, HB.out⟩
  case round =>
    obtain ⟨i, hi, rfl, hT, hb⟩ := hrel
    obtain ⟨wo, rfl⟩ : ∃ wo : World, wo = wr := ⟨_, rfl⟩
    have HT := Lib.hid hT
    have HB := Lib.hid hb
    clear hT hb
    by_cases hlt : i < rows.length
    · obtain ⟨g0, rfl, hg⟩ := own_cell H2.out (by omega)
      have hgl : g0 < w.heap.size := by obtain ⟨cs, hc⟩ := own_typed H2.out g0 rfl; exact blk_lt hc
      have e0 := (HB.out.cell (by exact hgl)).trans (hg (i * 4) _ ((cellsOf_get rows i hlt 0 (by omega)).trans rfl))
      have e1 := (HB.out.cell (by exact hgl)).trans (hg (i * 4 + 1) _ ((cellsOf_get rows i hlt 1 (by omega)).trans rfl))
      have e2 := (HB.out.cell (by exact hgl)).trans (hg (i * 4 + 2) _ ((cellsOf_get rows i hlt 2 (by omega)).trans rfl))
      have e3 := (HB.out.cell (by exact hgl)).trans (hg (i * 4 + 3) _ ((cellsOf_get rows i hlt 3 (by omega)).trans rfl))
      have hlt2 : (i : Int) < rows.length := by omega
      obtain ⟨m', a', c', es', cl', f1, f2, f3, f4, f5, f6, f7⟩ := HT.out
      rw [List.length_take, Nat.min_eq_left hi] at f1 f2 f7
      have Hfr := Lib.hid (findN_take Hd.out i hlt)
      have Hcs := Lib.hid (cellsOf_take rows i hlt)
      have Htk := Lib.hid (List.take_succ_eq_append_getElem hlt)
      generalize rows[i] = d at *
      have hp2 := blk_lt f1
      have hpp : ¬ p = w.heap.size + 1 := by omega
      have F1 := Lib.hid f1
      have F2 := Lib.hid f2
      have F3 := Lib.hid f3
      have F4 := Lib.hid f4
      have F7 := Lib.hid f7
      have hsz := HB.out.size
      have hne : some (w.heap.size + 1) ≠ (Value.slice a' i c').ownBlock := fun e => by
        obtain ⟨cs, hc⟩ := own_typed F2.out _ e.symm
        rw [F1.out] at hc
        injection hc with hc
        injection hc with _ ht
        exact absurd ht (by decide)
      have Hne := Lib.hid hne
      have hnm : some m' ≠ (Value.slice a' i c').ownBlock := fun e => by
        obtain ⟨cs, hc⟩ := own_typed F2.out m' e.symm
        rw [F3.out] at hc
        injection hc with hc
        exact absurd hc (by simp)
      have Hnm := Lib.hid hnm
      have q0 : wo.cell? ⟨w.heap.size + 1, 0, none⟩ = some (.slice a' i c') := (blk_cell F1.out 0).trans rfl
      clear f1 f2 f3 f4 f7 hne hnm hg d0
      go_wp2_with fail
      generalize hW : World.alloc _ _ = w2
      have hb2 : Below wo.heap.size wo w2 := by rw [← hW]; exact (Below.refl _ _).alloc (Nat.le_refl _) _
      have Hs2 : Hid (w2.heap.size = wo.heap.size + 1) := Lib.hid (by rw [← hW]; simp)
      have hs2 : wo.heap.size < w2.heap.size := by rw [Hs2.out]; omega
      have F1' := Lib.hid (blk_below' F1.out hb2)
      have F2' := Lib.hid (own_move F2.out (fun k hk => hb2.block k (by obtain ⟨cs, hc⟩ := own_typed F2.out k hk; exact blk_lt hc)))
      have F3' := Lib.hid (blk_below' F3.out hb2)
      have fb : w2.heap[wo.heap.size]? = some (.cells #[.int .i64 d.k, .string d.s, .int .i64 d.l, .int .i64 d.r] 54 (0, 0)) := by rw [← hW]; exact blk_new wo _
      have Fb := Lib.hid fb
      have HB2 := Lib.hid (HB.out.trans (hb2.mono (by omega)))
      have b0 : w2.cell? ⟨wo.heap.size, 0, none⟩ = some (.int .i64 d.k) := (blk_cell fb 0).trans rfl
      have b1 : w2.cell? ⟨wo.heap.size, 1, none⟩ = some (.string d.s) := (blk_cell fb 1).trans rfl
      have b2 : w2.cell? ⟨wo.heap.size, 2, none⟩ = some (.int .i64 d.l) := (blk_cell fb 2).trans rfl
      have b3 : w2.cell? ⟨wo.heap.size, 3, none⟩ = some (.int .i64 d.r) := (blk_cell fb 3).trans rfl
      have q0 : w2.cell? ⟨w.heap.size + 1, 0, none⟩ = some (.slice a' i c') := (blk_cell F1'.out 0).trans rfl
      have hp3 : w.heap.size + 1 < w2.heap.size := by omega
      clear fb hb2 hW
      go_region_law (first
        | ((
           refine step_node rfl _ _ rfl (.slice a' i c') i (cellsOf (rows.take i)) rfl w2.heap.size rfl d (own_move F2'.out ?_) ?_ ?_ ?_
           · intro k hk
             exact Below.heap_alloc w2 _ k (by obtain ⟨cs, hc⟩ := own_typed F2'.out k hk; exact blk_lt hc)
           · exact blk_new w2 _
           · omega
           intro g cap w3 hown hgrow hat hlt
           have g1 : w3.heap[w.heap.size + 1]? = some (.cells #[.slice a' i c', .map (some m')] 79 (0, 0)) := (hgrow.block _ (by simp; omega) Hne.out).trans (blk_alloc F1'.out _)
           have g3 : w3.heap[m']? = some (.map es' cl') := (hgrow.block m' (by have := blk_lt F3'.out; simp; omega) Hnm.out).trans (blk_alloc F3'.out _)
           have q0 : w3.cell? ⟨w.heap.size + 1, 0, none⟩ = some (.slice a' i c') := (blk_cell g1 0).trans rfl
           have q1 : w3.frozen? ⟨w.heap.size + 1, 0, none⟩ = false := blk_frozen g1 0
           have G3 := Lib.hid g3
           have Hown := Lib.hid hown
           have Hgrow := Lib.hid hgrow
           have Hat := Lib.hid hat
           have G1 := Lib.hid g1
           clear hown hgrow hat g1 g3)))
      all_goals
        go_wp2_with fail
        generalize hw4 : World.setCell _ _ _ = w4
        have k1 : w4.heap[w.heap.size + 1]? = some (.cells #[.slice (some ⟨g, 0, none⟩) (i + 1) cap, .map (some m')] 79 (0, 0)) := by rw [← hw4]; exact blk_set G1.out 0 _
        have hmp : m' ≠ w.heap.size + 1 := fun e => by have := G3.out; rw [e, G1.out] at this; exact absurd this (by simp)
        have k3 : w4.heap[m']? = some (.map es' cl') := by rw [← hw4]; exact blk_far G3.out hmp _
        have hgp : g ≠ w.heap.size + 1 := fun e => by
          obtain ⟨cs, hc⟩ := own_typed Hown.out g rfl
          rw [e, G1.out] at hc
          injection hc with hc
          injection hc with _ ht
          exact absurd ht (by decide)
        have hgm : g ≠ m' := fun e => by
          obtain ⟨cs, hc⟩ := own_typed Hown.out g rfl
          rw [e, G3.out] at hc
          injection hc with hc
          exact absurd hc (by simp)
        have ko : w4.ownsRow 0 54 4 (.slice (some ⟨g, 0, none⟩) (i + 1) cap) (i + 1) (cellsOf (rows.take (i + 1))) := by
          rw [← hw4, ← Hcs.out]
          exact own_move Hown.out (fun q hq => Below.heap_setCell w3 _ _ q (by rw [own_eq hq]; exact hgp))
        have kf : Below w.heap.size w w4 := by
          rw [← hw4]
          refine Fr.toBelow (F := fun k => k = w.heap.size + 1 ∨ (Value.slice a' i c').ownBlock = some k) HB2.out (Fr.setCell (Fr.grown (Fr.drew (Fr.alloc (Fr.refl _ w2) _)) Hgrow.out (fun q hq _ => .inr hq)) _ _ (fun _ => .inl rfl)) (fun q hq => ?_) (by omega)
          rcases hq with h | h
          · omega
          · exact F7.out q h
        have hup : (Instr.mapUpdate 77 (.map (some m')) (.agg #[.int .i64 d.k, .string d.s, .int .i64 d.l, .int .i64 d.r]) (.int .i64 i)).run Tryz.prog w4.drew = _ := upd_node (w := w4.drew) (m := m') k3 F4.out d (by rw [findAt_pairs, Hfr.out]; rfl) (.int .i64 i)
        have c1 : w4.cell? ⟨w.heap.size + 1, 1, none⟩ = some (.map (some m')) := (blk_cell k1 1).trans rfl
        have kb : w4.heap[wo.heap.size]? = some (.cells #[.int .i64 d.k, .string d.s, .int .i64 d.l, .int .i64 d.r] 54 (0, 0)) := by
          rw [← hw4]
          refine blk_far ((Hgrow.out.block wo.heap.size (by simp; omega) (fun e => ?_)).trans (blk_alloc Fb.out _)) (by simp; omega) _
          obtain ⟨cs, hc⟩ := own_typed F2.out _ e.symm
          have := blk_lt hc
          omega
        have e0 : w4.cell? ⟨wo.heap.size, 0, none⟩ = some (.int .i64 d.k) := (blk_cell kb 0).trans rfl
        have e1 : w4.cell? ⟨wo.heap.size, 1, none⟩ = some (.string d.s) := (blk_cell kb 1).trans rfl
        have e2 : w4.cell? ⟨wo.heap.size, 2, none⟩ = some (.int .i64 d.l) := (blk_cell kb 2).trans rfl
        have e3 : w4.cell? ⟨wo.heap.size, 3, none⟩ = some (.int .i64 d.r) := (blk_cell kb 3).trans rfl
        have Hfin : Hid (Tab (putBlk w4.drew m' (.map (es'.push { key := Nd.val d, val := .int .i64 i, born := cl' }) (cl' + 1))) (w.heap.size + 1) (rows.take (i + 1)) (fun k => w.heap.size ≤ k) ∧ Below w.heap.size w (putBlk w4.drew m' (.map (es'.push { key := Nd.val d, val := .int .i64 i, born := cl' }) (cl' + 1)))) := by
          have hs4 : ∀ q, q ≠ m' → (putBlk w4.drew m' (.map (es'.push { key := Nd.val d, val := .int .i64 i, born := cl' }) (cl' + 1))).heap[q]? = w4.heap[q]? := fun q hq => by
            show (w4.heap.setIfInBounds m' _)[q]? = _
            rw [Array.getElem?_setIfInBounds_ne (Ne.symm hq)]
          have hlen : (rows.take (i + 1)).length = i + 1 := by rw [List.length_take]; omega
          refine ⟨⟨m', some ⟨g, 0, none⟩, cap, es'.push { key := Nd.val d, val := .int .i64 i, born := cl' }, cl' + 1, ?_, ?_, ?_, ?_, by omega, f6, ?_⟩, ?_⟩
          · rw [hlen]; exact (hs4 _ (Ne.symm hmp)).trans k1
          · rw [hlen]; exact own_move ko (fun q hq => hs4 q (by rw [own_eq hq]; exact hgm))
          · show (w4.heap.setIfInBounds m' _)[m']? = _
            rw [Array.getElem?_setIfInBounds_self_of_lt (blk_lt k3)]
          · have := ents_push F4.out d cl'
            rw [← Htk.out, List.length_take, Nat.min_eq_left hi] at this
            exact this
          · intro q hq
            rw [own_eq hq]
            have := HB2.out.size
            rcases Hat.out with h | h
            · exact F7.out g h
            · rw [h]; simp; omega
          · exact ⟨kf.os, kf.tape, kf.output, by simpa [putBlk] using kf.size, fun q hq => (hs4 q (fun e => by have : w.heap.size ≤ m' := f6; omega)).trans (kf.block q hq)⟩
        clear k1 k3 kb ko kf hmp hgp hgm hw4 q0 q1 b0 b1 b2 b3
        go_region
        all_goals
          go_wp2_with fail
          exact ⟨⟨i + 1, by omega, by simp, Hfin.out.1, Hfin.out.2⟩, by simp [intOf]; omega⟩
    · have he : i = rows.length := by omega
      have hlt2 : ¬ (i : Int) < rows.length := by omega
      have Hend : Hid (Tab wo (w.heap.size + 1) rows (fun k => w.heap.size ≤ k) ∧ Below w.heap.size w wo) := by
        have := HT.out
        rw [he, List.take_length] at this
        exact ⟨this, HB.out⟩
      clear HT HB
      go_wp2_with fail
      go_ret
      exact ⟨rfl, Hend.out⟩

theorem known_tab (w : World) (p : Nat) (rows : List Nd) (F : Nat → Prop) (hT : Tab w p rows F) (hl : rows.length ≤ 1024) (hd : rows.Nodup) :
    Calls Tryz.prog 17 #[.pointer (some ⟨p, 0, none⟩)] w fun e w' => e = .returned (.bool true) ∧ Below w.heap.size w w' := by
  have HT := Lib.hid hT
  have Hd := Lib.hid hd
  clear hT hd
  go_enter Tryz.func17, Tryz.ntmps17
  go_wp2_with fail
  refine (copy_tab w p rows F HT.out hl Hd.out).mono ?_
  rintro e w1 ⟨rfl, hN, hb⟩
  have HB := Lib.hid hb
  clear hN hb
  go_wp2_with fail
  go_ret
  exact ⟨rfl, HB.out⟩

theorem nodup_of_ok {rows : List Nd} (h : okRows rows) : rows.Nodup := by
  refine List.pairwise_iff_getElem.2 fun i j hi hj hij e => ?_
  have hl : (rows.take j).length = j := by rw [List.length_take]; omega
  have hok := h j hj
  rw [okAt] at hok
  by_cases hf : fitsN (rows.take j).length rows[j] = 0
  · cases hfi : findN (rows.take j) rows[j] with
    | some k =>
      rw [putR_found hf hfi] at hok
      have := (findN_lt hfi).1
      have := congrArg Prod.fst hok
      simp only at this
      omega
    | none =>
      rw [findN, List.findIdx?_eq_none_iff] at hfi
      have := hfi rows[i] (List.mem_iff_getElem.2 ⟨i, by omega, by simp⟩)
      simp at this
      exact this e.symm
  · rw [putR_unfit hf] at hok
    exact hf (congrArg (fun x => x.2.1) hok)
end Go.Proofs.YtglnmkdlcbkpeaaGreatDoor
/- formula: Cut. -/
set_option linter.unusedVariables false
set_option linter.unusedSimpArgs false
namespace Go.Proofs.YtglnmkdlcbkpeaaGreatDoor
open Go.RowKit

theorem own_take {w : World} {base : Nat} {e : TypeId} {size n c : Nat} {a : Option Addr} {xs : List Value} (h : w.ownsRow base e size (.slice a n c) n xs) (k : Nat) (hk : k ≤ n) : w.ownsRow base e size (.slice a k c) k (xs.take (k * size)) := by
  obtain ⟨h1, h2⟩ := h
  have hm : k * size ≤ n * size := Nat.mul_le_mul_right _ hk
  refine ⟨by rw [List.length_take]; omega, ?_⟩
  rcases h2 with ⟨h2, h3⟩ | ⟨g, cap, cur, hv, hg, hh, h4, h5, h6, h7⟩
  · left
    refine ⟨?_, by omega⟩
    rw [h3] at h2
    have : k = 0 := by omega
    rw [this, h2]
  · right
    injection hv with e1 e2 e3
    subst e1; subst e3
    refine ⟨g, c, cur, rfl, hg, hh, by omega, h5, h6, ?_⟩
    rw [← h7, List.take_take, Nat.min_eq_left hm]
theorem cellsOf_takes (rows : List Nd) (k : Nat) (hk : k ≤ rows.length) : (cellsOf rows).take (k * 4) = cellsOf (rows.take k) := by
  have h : cellsOf rows = cellsOf (rows.take k) ++ cellsOf (rows.drop k) := by rw [← cellsOf_append, List.take_append_drop]
  rw [h, List.take_append_of_le_length (by rw [cellsOf_length, List.length_take]; omega), List.take_of_length_le (by rw [cellsOf_length, List.length_take]; omega)]

theorem del_node {w : World} {m : Nat} {es : Array MapEntry} {clock : Nat} {xs : List (Nd × Int)} (hm : w.heap[m]? = some (.map es clock)) (he : Ents es.toList xs) (n : Nd) (i : Nat) (v : Int) (hn : findAt n xs 0 = some (i, v)) (ty : TypeId) (ats : Array TypeId) (has : ats[0]? = some 77) :
    (Builtin.delete_ ats ty #[.map (some m), n.val]).run Tryz.prog w = .ok (.tuple #[]) (putBlk w m (.map (es.eraseIdxIfInBounds i) clock)) := by
  have hf := find_key n w es.toList xs he
  simp [Builtin.delete_, has, run_underlying under_at, run_getMap hm, check_node, hf, hn, run_setMap hm]
theorem eraseIdx_map' {α β : Type} (f : α → β) : ∀ (l : List α) (i : Nat), (l.eraseIdx i).map f = (l.map f).eraseIdx i := by
  intro l
  induction l with
  | nil => intro i; rfl
  | cons x l ih => intro i; cases i with
    | zero => rfl
    | succ i => simp only [List.eraseIdx_cons_succ, List.map_cons, ih]
theorem ents_erase {es : Array MapEntry} {xs : List (Nd × Int)} (h : Ents es.toList xs) (i : Nat) : Ents (es.eraseIdxIfInBounds i).toList (xs.eraseIdx i) := by
  have : (es.eraseIdxIfInBounds i).toList = es.toList.eraseIdx i := by
    rw [Array.eraseIdxIfInBounds]
    split
    · simp
    · rename_i hh
      rw [List.eraseIdx_of_length_le (by simpa using hh)]
  rw [this]
  simp only [Ents] at *
  rw [eraseIdx_map', h, ← eraseIdx_map']

/-- The entries that are left when j rows from n on are struck. -/
def gone (rows : List Nd) (n j : Nat) : List (Nd × Int) := (pairs rows).take n ++ (pairs rows).drop (n + j)
theorem gone_zero (rows : List Nd) (n : Nat) : gone rows n 0 = pairs rows := by simp [gone]
theorem pairs_length (rows : List Nd) : (pairs rows).length = rows.length := by simp [pairs]
theorem pairs_take (rows : List Nd) (n : Nat) : (pairs rows).take n = pairs (rows.take n) := by
  refine List.ext_getElem (by simp [pairs]) fun i h1 h2 => by simp [pairs]
theorem gone_all (rows : List Nd) (n : Nat) (h : n ≤ rows.length) : gone rows n (rows.length - n) = pairs (rows.take n) := by
  rw [gone, List.drop_of_length_le (by rw [pairs_length]; omega), List.append_nil, pairs_take]
theorem findAt_app (d : Nd) (ys : List (Nd × Int)) : ∀ (xs : List (Nd × Int)) (i : Nat), (∀ x ∈ xs, d ≠ x.1) → findAt d (xs ++ ys) i = findAt d ys (i + xs.length) := by
  intro xs
  induction xs with
  | nil => intro i _; rfl
  | cons x xs ih =>
    intro i h
    have h1 := h x (by simp)
    rw [List.cons_append, findAt, if_neg h1, ih (i + 1) (fun y hy => h y (by simp [hy]))]
    congr 1
    simp; omega
theorem pairs_get (rows : List Nd) (k : Nat) (h : k < rows.length) : (pairs rows)[k]'(by rw [pairs_length]; exact h) = (rows[k], (k : Int)) := by simp [pairs]
theorem gone_next (rows : List Nd) (n j : Nat) (hd : rows.Nodup) (h : n + j < rows.length) : findAt rows[n + j] (gone rows n j) 0 = some (n, ((n + j : Nat) : Int)) ∧ (gone rows n j).eraseIdx n = gone rows n (j + 1) := by
  have hl : ((pairs rows).take n).length = n := by rw [List.length_take, pairs_length]; omega
  have hdr : (pairs rows).drop (n + j) = (rows[n + j], ((n + j : Nat) : Int)) :: (pairs rows).drop (n + j + 1) := by
    rw [List.drop_eq_getElem_cons (by rw [pairs_length]; exact h), pairs_get rows _ h]
  constructor
  · rw [gone, hdr, findAt_app]
    · rw [findAt, if_pos rfl, hl, Nat.zero_add]
    · intro x hx e
      rw [pairs_take] at hx
      obtain ⟨k, hk, rfl⟩ := List.getElem_of_mem hx
      have hk2 : k < n := by rw [pairs_length, List.length_take] at hk; omega
      have hk3 : k < (rows.take n).length := by rw [List.length_take]; omega
      rw [pairs_get _ k hk3] at e
      simp only [List.getElem_take] at e
      exact (List.pairwise_iff_getElem.1 hd k (n + j) (by omega) h (by omega)) e.symm
  · rw [gone, gone, hdr, List.eraseIdx_append_of_length_le (by omega), hl, Nat.sub_self, List.eraseIdx_cons_zero, Nat.add_assoc]

def CutPost (w : World) (p : Nat) (rows : List Nd) (F : Nat → Prop) (e : Ending) (w' : World) : Prop :=
  e = .returned (.int .i64 0) ∧ Tab w' p rows F ∧ Fr F w w'

set_option maxRecDepth 100000 in
set_option maxHeartbeats 4000000 in
theorem cut_none (w : World) (p m : Nat) (a : Option Addr) (c : Nat) (h1 : w.heap[p]? = some (.cells #[.slice a c c, .map (some m)] 79 (0, 0))) (hc2 : c ≤ maxLen) :
    Calls Tryz.prog 51 #[.pointer (some ⟨p, 0, none⟩), .int .i64 c] w fun e w' => e = .returned (.int .i64 0) ∧ w' = w.setCell ⟨p, 0, none⟩ (.slice a c c) := by
  have hp := blk_lt h1
  have c0 : w.cell? ⟨p, 0, none⟩ = some (.slice a c c) := (blk_cell h1 0).trans rfl
  have c1 : w.cell? ⟨p, 1, none⟩ = some (.map (some m)) := (blk_cell h1 1).trans rfl
  have c2 : w.frozen? ⟨p, 0, none⟩ = false := blk_frozen h1 0
  have hn2 : ¬ (c : Int) < 0 := by omega
  clear h1
  go_enter Tryz.func51, Tryz.ntmps51
  go_wp2_with fail
  refine (alive_some p m _ c1).mono ?_
  rintro e w1 ⟨rfl, rfl⟩
  go_wp2_with fail
  go_loopw [30] (fun v wr => v = .int .i64 0 ∧ w = wr) (fun v _ => 0)
  case atStart => exact ⟨by simp, rfl⟩
  case round =>
    obtain ⟨rfl, rfl⟩ := hrel
    go_wp2_with fail
    go_ret
    exact ⟨rfl, rfl⟩

set_option maxRecDepth 100000 in
set_option maxHeartbeats 4000000 in
theorem cut_some (w : World) (p m g0 c : Nat) (rows : List Nd) (cs : Array Value) (es : Array MapEntry) (cl n : Nat) (h1 : w.heap[p]? = some (.cells #[.slice (some ⟨g0, 0, none⟩) rows.length c, .map (some m)] 79 (0, 0)))
    (hg : ∀ j u, (cellsOf rows)[j]? = some u → w.cell? ⟨g0, j, none⟩ = some u) (hgb : w.heap[g0]? = some (.cells cs 54 (0, 0))) (h3 : w.heap[m]? = some (.map es cl)) (h4 : Ents es.toList (pairs rows)) (hl : rows.length ≤ 1024) (hd : rows.Nodup) (hn : n ≤ rows.length) (hc : rows.length ≤ c) (hc2 : c ≤ maxLen) (hcn : ¬ c = n) :
    Calls Tryz.prog 51 #[.pointer (some ⟨p, 0, none⟩), .int .i64 n] w fun e w' => e = .returned (.int .i64 0) ∧
      ∃ w1 es', w' = w1.setCell ⟨p, 0, none⟩ (.slice (some ⟨g0, 0, none⟩) n c) ∧ w1.heap[m]? = some (.map es' cl) ∧ Ents es'.toList (pairs (rows.take n)) ∧ Fr (fun k => k = m) w w1 := by
  have hp := blk_lt h1
  have hm := blk_lt h3
  have hgl := blk_lt hgb
  have c0 : w.cell? ⟨p, 0, none⟩ = some (.slice (some ⟨g0, 0, none⟩) rows.length c) := (blk_cell h1 0).trans rfl
  have c1 : w.cell? ⟨p, 1, none⟩ = some (.map (some m)) := (blk_cell h1 1).trans rfl
  have hn2 : ¬ (n : Int) < 0 := by omega
  have hn3 : ¬ (rows.length : Int) < n := by omega
  have hpm : p ≠ m := fun e => by have := h3; rw [← e, h1] at this; exact absurd this (by simp)
  have hgm : g0 ≠ m := fun e => by have := h3; rw [← e, hgb] at this; exact absurd this (by simp)
  have H1 := Lib.hid h1
  have H3 := Lib.hid h3
  have H4 := Lib.hid h4
  have Hd := Lib.hid hd
  have Hg := Lib.hid hg
  have Hpm := Lib.hid hpm
  have Hgm := Lib.hid hgm
  clear h1 h3 h4 hd hg hgb hpm hgm
  go_enter Tryz.func51, Tryz.ntmps51
  go_wp2_with fail
  refine (alive_some p m _ c1).mono ?_
  rintro e w1 ⟨rfl, rfl⟩
  go_wp2_with fail
  go_loopw [30] (fun v wr => ∃ (j : Nat) (es' : Array MapEntry), n + j ≤ rows.length ∧ v = .int .i64 j ∧ wr.heap[m]? = some (.map es' cl) ∧ Ents es'.toList (gone rows n j) ∧ Fr (fun k => k = m) w wr) (fun v _ => rows.length - n - (intOf v).toNat)
  case atStart =>
    exact ⟨0, es, by omega, rfl, H3.out, by rw [gone_zero]; exact H4.out, Fr.refl _ _⟩
  case round =>
    obtain ⟨j, es', hj, rfl, g3, g4, gf⟩ := hrel
    obtain ⟨wo, rfl⟩ : ∃ wo : World, wo = wr := ⟨_, rfl⟩
    have G3 := Lib.hid g3
    have G4 := Lib.hid g4
    have GF := Lib.hid gf
    have hsz := gf.size
    clear g3 g4 gf c0 c1
    have g1 := GF.out.blk H1.out Hpm.out
    have c0 : wo.cell? ⟨p, 0, none⟩ = some (.slice (some ⟨g0, 0, none⟩) rows.length c) := (blk_cell g1 0).trans rfl
    have c1 : wo.cell? ⟨p, 1, none⟩ = some (.map (some m)) := (blk_cell g1 1).trans rfl
    have c2 : wo.frozen? ⟨p, 0, none⟩ = false := blk_frozen g1 0
    have G1 := Lib.hid g1
    clear g1
    by_cases hlt : n + j < rows.length
    · have hmv : ∀ k, wo.cell? ⟨g0, k, none⟩ = w.cell? ⟨g0, k, none⟩ := fun k => World.cell?_of_block (GF.out.block g0 hgl Hgm.out)
      have e0 := (hmv _).trans (Hg.out ((n + j) * 4) _ ((cellsOf_get rows (n + j) hlt 0 (by omega)).trans rfl))
      have e1 := (hmv _).trans (Hg.out ((n + j) * 4 + 1) _ ((cellsOf_get rows (n + j) hlt 1 (by omega)).trans rfl))
      have e2 := (hmv _).trans (Hg.out ((n + j) * 4 + 2) _ ((cellsOf_get rows (n + j) hlt 2 (by omega)).trans rfl))
      have e3 := (hmv _).trans (Hg.out ((n + j) * 4 + 3) _ ((cellsOf_get rows (n + j) hlt 3 (by omega)).trans rfl))
      rw [Nat.add_mul] at e0 e1 e2 e3
      obtain ⟨gn1, gn2⟩ := gone_next rows n j Hd.out hlt
      have GN1 := Lib.hid gn1
      have GN2 := Lib.hid gn2
      have hlt2 : (j : Int) < (rows.length - n : Nat) := by omega
      generalize rows[n + j] = d at *
      clear gn1 gn2 hmv
      go_wp2_with fail
      generalize hW : World.alloc _ _ = w2
      have b1 : w2.heap[p]? = some (.cells #[.slice (some ⟨g0, 0, none⟩) rows.length c, .map (some m)] 79 (0, 0)) := by rw [← hW]; exact blk_alloc G1.out _
      have b3 : w2.heap[m]? = some (.map es' cl) := by rw [← hW]; exact blk_alloc G3.out _
      have bb : w2.heap[wo.heap.size]? = some (.cells #[.int .i64 d.k, .string d.s, .int .i64 d.l, .int .i64 d.r] 54 (0, 0)) := by rw [← hW]; exact blk_new wo _
      have GF2 : Hid (Fr (fun k => k = m) w w2) := Lib.hid (by rw [← hW]; exact GF.out.alloc _)
      have B3 := Lib.hid b3
      have e0 : w2.cell? ⟨wo.heap.size, 0, none⟩ = some (.int .i64 d.k) := (blk_cell bb 0).trans rfl
      have e1 : w2.cell? ⟨wo.heap.size, 1, none⟩ = some (.string d.s) := (blk_cell bb 1).trans rfl
      have e2 : w2.cell? ⟨wo.heap.size, 2, none⟩ = some (.int .i64 d.l) := (blk_cell bb 2).trans rfl
      have e3 : w2.cell? ⟨wo.heap.size, 3, none⟩ = some (.int .i64 d.r) := (blk_cell bb 3).trans rfl
      have k1 : w2.cell? ⟨p, 1, none⟩ = some (.map (some m)) := (blk_cell b1 1).trans rfl
      have hdel : (Builtin.delete_ #[77, 54] 0 #[.map (some m), .agg #[.int .i64 d.k, .string d.s, .int .i64 d.l, .int .i64 d.r]]).run Tryz.prog w2.drew = _ := del_node (w := w2.drew) (m := m) b3 G4.out d n _ GN1.out 0 #[77, 54] rfl
      clear b1 b3 bb hW
      go_region
      all_goals
        go_wp2_with fail
        refine ⟨⟨j + 1, es'.eraseIdxIfInBounds n, by omega, by simp, ?_, by rw [← GN2.out]; exact ents_erase G4.out n, ?_⟩, by simp [intOf]; omega⟩
        · show (w2.heap.setIfInBounds m _)[m]? = _
          rw [Array.getElem?_setIfInBounds_self_of_lt (blk_lt B3.out)]
        · exact ⟨GF2.out.os, GF2.out.tape, GF2.out.output, by simpa [putBlk] using GF2.out.size, fun q hq hn => by
            show (w2.heap.setIfInBounds m _)[q]? = _
            rw [Array.getElem?_setIfInBounds_ne (Ne.symm hn)]
            exact GF2.out.block q hq hn⟩
    · have hlt2 : ¬ (j : Int) < (rows.length - n : Nat) := by omega
      have he : j = rows.length - n := by omega
      have Hend : Hid (Ents es'.toList (pairs (rows.take n))) := Lib.hid (by have := G4.out; rw [he, gone_all rows n hn] at this; exact this)
      go_wp2_with fail
      go_ret
      exact ⟨rfl, _, rfl, es', G3.out, Hend.out, GF.out⟩

theorem cut_tab (w : World) (p : Nat) (rows : List Nd) (F : Nat → Prop) (n : Nat) (hT : Tab w p rows F) (hl : rows.length ≤ 1024) (hd : rows.Nodup) (hn : n ≤ rows.length) :
    Calls Tryz.prog 51 #[.pointer (some ⟨p, 0, none⟩), .int .i64 n] w (CutPost w p (rows.take n) F) := by
  obtain ⟨m, a, c, es, cl, h1, h2, h3, h4, h5, h6, h7⟩ := hT
  have hcap : rows.length ≤ c ∧ c ≤ maxLen := by
    rcases h2.2 with ⟨hv, h0⟩ | ⟨g, cap, cur, hv, hg, hh, k1, k2, _⟩
    · injection hv with e1 e2 e3
      subst e3
      exact ⟨by omega, by unfold maxLen; omega⟩
    · injection hv with e1 e2 e3
      subst e3
      exact ⟨k1, k2⟩
  have hpm : m ≠ p := fun e => by have := h3; rw [e, h1] at this; exact absurd this (by simp)
  have hpo : ∀ q, (Value.slice a rows.length c).ownBlock = some q → q ≠ p := fun q hq e => by
    obtain ⟨cs, hc⟩ := own_typed h2 q hq
    rw [e, h1] at hc
    injection hc with hc
    injection hc with _ ht
    exact absurd ht (by decide)
  by_cases hcn : c = n
  · subst hcn
    have he : rows.length = c := by omega
    have ht : rows.take c = rows := List.take_of_length_le (by omega)
    refine (cut_none w p m a c (he ▸ h1) hcap.2).mono ?_
    rintro e w' ⟨rfl, rfl⟩
    rw [ht]
    refine ⟨rfl, ⟨m, a, c, es, cl, ?_, own_move h2 (fun q hq => Below.heap_setCell w _ _ q (hpo q hq)), blk_far h3 hpm _, h4, h5, h6, h7⟩, (Fr.refl F w).setCell _ _ (fun _ => h5)⟩
    rw [he]
    exact blk_set (he ▸ h1) 0 _
  · have ha : ∃ g0, a = some ⟨g0, 0, none⟩ ∧ ∀ j u, (cellsOf rows)[j]? = some u → w.cell? ⟨g0, j, none⟩ = some u := by
      by_cases h0 : 0 < rows.length
      · exact own_cell h2 h0
      · rcases h2.2 with ⟨hv, h0⟩ | ⟨g, cap, cur, hv, hg, hh, k1, k2, _⟩
        · injection hv with e1 e2 e3
          omega
        · injection hv with e1 e2 e3
          refine ⟨g, e1, fun j u hu => ?_⟩
          have := (List.getElem?_eq_some_iff.1 hu).1
          rw [cellsOf_length] at this
          omega
    obtain ⟨g0, rfl, hg⟩ := ha
    obtain ⟨cs, hgb⟩ := own_typed h2 g0 rfl
    have hgm : g0 ≠ m := fun e => by have := h3; rw [← e, hgb] at this; exact absurd this (by simp)
    have htl : (rows.take n).length = n := by rw [List.length_take]; omega
    refine (cut_some w p m g0 c rows cs es cl n h1 hg hgb h3 h4 hl hd hn hcap.1 hcap.2 hcn).mono ?_
    rintro e w' ⟨rfl, w1, es', rfl, k3, k4, kf⟩
    have b1 := kf.blk h1 (Ne.symm hpm)
    refine ⟨rfl, ⟨m, some ⟨g0, 0, none⟩, c, es', cl, ?_, ?_, blk_far k3 hpm _, k4, h5, h6, ?_⟩, (Fr.mono kf (T := F) (fun i _ e => e ▸ h6)).setCell _ _ (fun _ => h5)⟩
    · rw [htl]; exact blk_set b1 0 _
    · rw [htl, ← cellsOf_takes rows n hn]
      exact own_take (own_move h2 (fun q hq => (Below.heap_setCell w1 _ _ q (hpo q hq)).trans (kf.block q (by rw [own_eq hq]; exact blk_lt hgb) (by rw [own_eq hq]; exact hgm)))) n hn
    · intro q hq
      exact h7 q (by rw [own_eq hq]; rfl)
end Go.Proofs.YtglnmkdlcbkpeaaGreatDoor
