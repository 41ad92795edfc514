/-
  Package syntax: what Parse and Take answer.
-/
import Derived.Test.YtglnmkdlcbkpeaaGreatDoorGA
/- syntax: Parse. -/
set_option linter.unusedVariables false
set_option linter.unusedSimpArgs false
namespace Go.Proofs.YtglnmkdlcbkpeaaGreatDoor
open Go.RowKit

def ParsePost (w : World) (p : Nat) (F : Nat → Prop) (x : Int × Flt × List Nd) (e : Ending) (w' : World) : Prop :=
  e = .returned (.tuple #[.int .i64 x.1, x.2.1.val]) ∧ Tab w' p x.2.2 (fun k => F k ∨ w.heap.size ≤ k) ∧ Fr F w w'

theorem out_read (rows : List Nd) (r : Rs) (hb : Bad r) (ho : r ≠ .out) :
    ((readOut (st0 rows) r).1.e ≠ 0 ∧ outQ rows r = (0, (readOut (st0 rows) r).1, (readOut (st0 rows) r).2)) ∨
    (∃ v st, r = .ok v st ∧ st.full = false ∧ readOut (st0 rows) r = (Flt.ok, st.rows) ∧ outQ rows r = (v, Flt.ok, st.rows)) := by
  cases r with
  | out => exact absurd rfl ho
  | bad f rws =>
    refine .inl ⟨?_, rfl⟩
    show f.e ≠ 0
    rcases hb with h | h <;> omega
  | ok v st =>
    cases hf : st.full with
    | true => exact .inl ⟨by simp [readOut, hf, full30], by simp [readOut, outQ, hf, st0]⟩
    | false => exact .inr ⟨v, st, rfl, hf, by simp [readOut, hf], by simp [outQ, hf]⟩
set_option maxRecDepth 100000 in
set_option maxHeartbeats 8000000 in
theorem parse_any (w : World) (p : Nat) (rows : List Nd) (F : Nat → Prop) (s : ByteArray) (x : Int × Flt × List Nd) (hTb : Tab w p rows F) (hl : rows.length ≤ 1024) (hd : rows.Nodup) (hs : s.size ≤ 1099511627000) (hT : Gl w) (hr : parseQ rows s = some x) :
    Calls Tryz.prog 12 #[.pointer (some ⟨p, 0, none⟩), .string s] w (ParsePost w p F x) := by
  have hmf : ∀ (fn : Fn) (first cap : Array Value) (w : World), (Instr.makeFunc fn first cap).run Tryz.prog w = .ok (.func fn first cap) w := fun _ _ _ _ => rfl
  have HT := Lib.hid hT
  have HTb := Lib.hid hTb
  have Hd := Lib.hid hd
  unfold parseQ at hr
  cases ha : aheadQ s with
  | none => rw [ha] at hr; cases hr
  | some y =>
    obtain ⟨ts, fl⟩ := y
    rw [ha] at hr
    obtain rfl := Option.some.inj hr
    have Ha := Lib.hid ha
    obtain ⟨hlen, htok⟩ := aheadQ_props s ts fl ha
    have Htok := Lib.hid htok
    clear hr ha htok hT hTb hd
    go_enter Tryz.func12, Tryz.ntmps12
    go_wp2_with fail
    have hb0 := (Below.refl w.heap.size w).alloc (Nat.le_refl _) (.cells #[.int .i64 0, .int .i64 0, .int .i64 0, .int .i64 0] 40 (0, 0))
    refine (known_tab _ p rows F (HTb.out.below hb0) hl Hd.out).mono ?_
    rintro e w1 ⟨rfl, hb⟩
    have Z1 := Lib.hid (blk_below' (blk_new w _) hb)
    have HB1 := Lib.hid (below_tail hb)
    have hs1 := HB1.out.size
    have hz1 := blk_lt Z1.out
    clear hb hb0
    go_wp2_with fail
    refine (ahead_any s w1 ts fl hs (HT.out.on HB1.out) Ha.out).mono ?_
    rintro e w2 ⟨a, c, rfl, ho, hb⟩
    have Z2 := Lib.hid (blk_below' Z1.out hb)
    have HB2 := Lib.hid (HB1.out.trans (hb.mono hs1))
    have HO2 := Lib.hid ho
    have hs2 := hb.size
    clear hb ho
    simp only [Flt.val]
    go_wp2_with fail
    generalize hW : World.alloc _ _ = w3
    have hb3 : Below w2.heap.size w2 w3 := by rw [← hW]; exact (Below.refl _ _).alloc (Nat.le_refl _) _
    have hx3 : w3.heap[w2.heap.size]? = some (.cells fl.arr 40 (0, 0)) := by rw [← hW]; exact blk_new w2 _
    have X3 := Lib.hid hx3
    have Z3 := Lib.hid (blk_below' Z2.out hb3)
    have HB3 := Lib.hid (HB2.out.trans (hb3.mono (by omega)))
    have HO3 := Lib.hid (own_move HO2.out (fun k hk => by obtain ⟨cs, h⟩ := own_typed HO2.out k hk; exact hb3.block k (blk_lt h)))
    have hs3 := hb3.size
    clear hb3 hx3 hW
    go_loopw [8, 25] (fun u v wr => ∃ i n : Nat, i ≤ ts.length ∧ n ≤ 512 ∧ u = .int .i64 n ∧ v = .int .i64 i ∧ Below w3.heap.size w3 wr ∧ firstBig (ts.drop i) n = firstBig ts 0) (fun _ v _ => ts.length - (intOf v).toNat)
    case atStart => exact ⟨0, 0, by omega, by omega, rfl, rfl, Below.refl _ _, rfl⟩
    case round =>
      obtain ⟨i, n, hi, hn, rfl, rfl, hb, hfb⟩ := hrel
      obtain ⟨wo, rfl⟩ : ∃ wo : World, wo = wr := ⟨_, rfl⟩
      have HBo := Lib.hid hb
      have Hfb := Lib.hid hfb
      have hso := hb.size
      clear hb hfb
      by_cases hlt : i < ts.length
      · have hlt2 : (i : Int) < ts.length := by omega
        have ho := own_move HO3.out (fun k hk => by obtain ⟨cs, h⟩ := own_typed HO3.out k hk; exact HBo.out.block k (blk_lt h))
        obtain ⟨g, rfl, hgl, hgb, e0, e1, e2, e3, e4, e5⟩ := own_toks ho i hlt
        have Hdr := Lib.hid (List.drop_eq_getElem_cons hlt)
        generalize ts[i] = t at *
        clear ho
        go_wp2_with fail
        refine (counted_any _ t).mono ?_
        rintro e w4 ⟨rfl, hb⟩
        have T4 := Lib.hid (blk_below' (blk_new wo _) hb)
        have HB4 := Lib.hid (HBo.out.trans ((below_tail hb).mono hso))
        clear hb
        cases hct : countT t with
        | true =>
          by_cases hbig : 512 < n + 1
          · have hbig2 : (512 : Int) < (n : Int) + 1 := by omega
            have Hbig := Lib.hid hbig
            have Hct := Lib.hid hct
            have Z4 := Lib.hid (blk_below' Z3.out HB4.out)
            obtain ⟨z0, z1', z2, z3, y0, y1, y2, y3⟩ := zero_flt Z4.out
            have x3 : w4.cell? ⟨wo.heap.size, 3, none⟩ = some (.int .i64 t.l) := (blk_cell T4.out 3).trans rfl
            have x4 : w4.cell? ⟨wo.heap.size, 4, none⟩ = some (.int .i64 t.c) := (blk_cell T4.out 4).trans rfl
            have x5 : w4.cell? ⟨wo.heap.size, 5, none⟩ = some (.int .i64 t.o) := (blk_cell T4.out 5).trans rfl
            have n1 : ¬ wo.heap.size = w.heap.size := by omega
            have hx : parseT rows (ts, fl) = (0, ⟨40, t.l, t.c, t.o⟩, rows) := by
              have : firstBig ts 0 = some t := by rw [← Hfb.out, Hdr.out, firstBig, if_pos Hct.out, if_pos Hbig.out]
              simp only [parseT, this]
            have Hx := Lib.hid hx
            clear hct hbig hx
            go_wp2_with fail
            go_region
            all_goals
              go_wp2_with fail
              generalize hW : World.drew _ = w9
              have hb9 : w9.heap[w.heap.size]? = some (.cells (Flt.mk 40 t.l t.c t.o).arr 40 (0, 0)) := by rw [← hW]; exact set4 _ _ _ _ Z4.out
              have hf9 : Fr (fun k => k = w.heap.size) w4 w9 := by rw [← hW]; exact (fr4 (S := fun k => k = w.heap.size) _ _ _ _ (Fr.refl _ w4) (fun _ => rfl)).drew
              have g0 : w9.cell? ⟨w.heap.size, 0, none⟩ = some (.int .i64 40) := (blk_cell hb9 0).trans rfl
              have g1 : w9.cell? ⟨w.heap.size, 1, none⟩ = some (.int .i64 t.l) := (blk_cell hb9 1).trans rfl
              have g2 : w9.cell? ⟨w.heap.size, 2, none⟩ = some (.int .i64 t.c) := (blk_cell hb9 2).trans rfl
              have g3 : w9.cell? ⟨w.heap.size, 3, none⟩ = some (.int .i64 t.o) := (blk_cell hb9 3).trans rfl
              have hB9 : Below w.heap.size w w9 := Fr.toBelow (HB3.out.trans (HB4.out.mono (by omega))) hf9 (fun i h => by omega) (HB3.out.trans (HB4.out.mono (by omega))).size
              have Hfin := Lib.hid (show ParsePost w p F (parseT rows (ts, fl)) (.returned (.tuple #[.int .i64 0, (Flt.mk 40 t.l t.c t.o).val])) w9 from by
                rw [Hx.out]
                exact ⟨rfl, (HTb.out.below hB9).mono (fun k h => .inl h), Fr.of_below hB9 F⟩)
              clear hb9 hf9 hB9 hW
              exact bodyPost_ret (v := .tuple #[.int .i64 0, (Flt.mk 40 t.l t.c t.o).val]) (by simp [results, Tryz.results12, go_sem, Flt.val, g0, g1, g2, g3]) rfl Hfin.out
          · have hbig2 : ¬ (512 : Int) < (n : Int) + 1 := by omega
            have Hct := Lib.hid hct
            clear hct
            go_wp2_with fail
            exact ⟨⟨i + 1, n + 1, by omega, by omega, by simp, by simp, HB4.out, by rw [← Hfb.out, Hdr.out, firstBig, if_pos Hct.out, if_neg hbig]⟩, by simp [intOf]; omega⟩
        | false =>
          have Hct := Lib.hid hct
          clear hct
          go_wp2_with fail
          exact ⟨⟨i + 1, n, by omega, by omega, rfl, by simp, HB4.out, by rw [← Hfb.out, Hdr.out, firstBig, if_neg (by rw [Hct.out]; decide)]⟩, by simp [intOf]; omega⟩
      · have hlt2 : ¬ (i : Int) < ts.length := by omega
        have hnone : firstBig ts 0 = none := by rw [← Hfb.out, List.drop_of_length_le (by omega)]; rfl
        go_wp2_with fail
        generalize hA : World.alloc _ (.cells #[.pointer (some ⟨p, 0, none⟩), .slice a ts.length c, .int .i64 0, .int .i64 0, .int .i64 0, .bool false, .bool false] 85 (0, 0)) = wa
        generalize hBq : World.alloc _ (.cells #[.pointer (some ⟨wo.heap.size, 0, none⟩)] 83 (0, 0)) = wb
        generalize hC : World.alloc _ _ = w5
        have sa : wa.heap.size = wo.heap.size + 1 := by rw [← hA]; simp
        have sb : wb.heap.size = wo.heap.size + 1 + 1 := by rw [← hBq]; simp [sa]
        have sc : w5.heap.size = wo.heap.size + 1 + 1 + 1 := by rw [← hC]; simp [sb]
        have ba : wa.heap[wo.heap.size]? = some (.cells #[.pointer (some ⟨p, 0, none⟩), .slice a ts.length c, .int .i64 0, .int .i64 0, .int .i64 0, .bool false, .bool false] 85 (0, 0)) := by rw [← hA]; exact blk_new wo _
        have bb : wb.heap[wo.heap.size + 1]? = some (.cells #[.pointer (some ⟨wo.heap.size, 0, none⟩)] 83 (0, 0)) := by rw [← hBq, ← sa]; exact blk_new wa _
        have bc : w5.heap[wo.heap.size + 1 + 1]? = some (.cells #[.int .i64 0] 3 (0, 0)) := by rw [← hC, ← sb]; exact blk_new wb _
        have lab : Below wa.heap.size wa wb := by rw [← hBq]; exact (Below.refl _ _).alloc (Nat.le_refl _) _
        have lbc : Below wb.heap.size wb w5 := by rw [← hC]; exact (Below.refl _ _).alloc (Nat.le_refl _) _
        have loa : Below wo.heap.size wo wa := by rw [← hA]; exact (Below.refl _ _).alloc (Nat.le_refl _) _
        have ba5 := blk_below' (blk_below' ba lab) lbc
        have bb5 := blk_below' bb lbc
        have B5 : Below w.heap.size w w5 := (HB3.out.trans (HBo.out.mono (by omega))).trans (((loa.trans (lab.mono (by omega))).trans (lbc.mono (by omega))).mono (by omega))
        have B35 : Below w3.heap.size w3 w5 := HBo.out.trans (((loa.trans (lab.mono (by omega))).trans (lbc.mono (by omega))).mono (by omega))
        have X5 := blk_below' X3.out B35
        have Z5 := blk_below' Z3.out B35
        have hx3 := blk_lt X3.out
        have hz3 := blk_lt Z3.out
        have T5 := HTb.out.bound.below B5
        have O5 : w5.ownsRow w1.heap.size 73 6 (.slice a ts.length c) ts.length (toksCells ts) := own_move HO3.out (fun k hk => by obtain ⟨cs, h⟩ := own_typed HO3.out k hk; exact B35.block k (blk_lt h))
        have hRD : RD w5 ⟨wo.heap.size, p, a, c, ts, false, w5.heap.size, fun k => F k ∧ k < w.heap.size⟩ (st0 rows) :=
          ⟨ba5, T5.mono (fun k hk => .inl hk), fun hn => by
            obtain ⟨g, hg, hgl, hgb, _⟩ := own_toks O5 0 hn
            subst hg
            obtain ⟨g', hg', hgc⟩ := own_cell O5 hn
            cases hg'
            refine ⟨g, 0, rfl, hgl, fun h => by have := h.2; omega, fun h => ?_, fun j u hu => by rw [Nat.zero_add]; exact hgc j u hu⟩
            obtain ⟨cs, hc⟩ := own_typed O5 g rfl
            rw [h, ba5] at hc
            injection hc with hc
            injection hc with _ ht
            exact absurd ht (by decide), Nat.le_refl _, fun h => by have h2 : wo.heap.size < w.heap.size := h.2; omega, by show wo.heap.size < w5.heap.size; omega, by show ts.length ≤ _; omega, fun t ht => by have := Htok.out t ht; show t.s.size ≤ _; omega, hl, Hd.out, Nat.zero_le _, Nat.zero_le _, Nat.zero_le _⟩
        have HRD := Lib.hid hRD
        clear hRD
        have HB5 := Lib.hid B5
        have hw : ∀ w', Below w5.heap.size w5 w' → RD w' (Env.at ⟨wo.heap.size, p, a, c, ts, false, w5.heap.size, fun k => F k ∧ k < w.heap.size⟩ w'.heap.size) (st0 rows) →
            Calls Tryz.prog 32 #[.pointer (some ⟨wo.heap.size + 1, 0, none⟩), .pointer (some ⟨wo.heap.size + 1 + 1, 0, none⟩), .pointer (some ⟨w2.heap.size, 0, none⟩)] w' (WPost w' (Env.at ⟨wo.heap.size, p, a, c, ts, false, w5.heap.size, fun k => F k ∧ k < w.heap.size⟩ w'.heap.size) (wo.heap.size + 1 + 1) (wholeP (envT false ts) (st0 rows) fl.e)) := by
          intro w' hb' hR'
          have hs' := hb'.size
          have far : ∀ k, w.heap.size ≤ k → k < w5.heap.size → k ≠ wo.heap.size → (Env.at ⟨wo.heap.size, p, a, c, ts, false, w5.heap.size, fun k => F k ∧ k < w.heap.size⟩ w'.heap.size).far k := fun k h1 h2 h3 => ⟨by show k < w'.heap.size; omega, fun h => by have h2 : k < w.heap.size := h.2; omega, h3⟩
          exact whole_any w' _ (st0 rows) _ _ _ fl.e (.int .i64 0) hR' ((blk_cell (blk_below' bb5 hb') 0).trans rfl) (blk_below' bc hb') ((blk_cell (blk_below' X5 hb') 0).trans rfl) (far _ (by omega) (by omega) (by omega)) (far _ (by omega) (by omega) (by omega)) (far _ (by omega) (by omega) (by omega)) (by omega) (by omega)
        refine (read_any w5 ⟨wo.heap.size, p, a, c, ts, false, w5.heap.size, fun k => F k ∧ k < w.heap.size⟩ (st0 rows) 32 _ (wo.heap.size + 1 + 1) (wholeP (envT false ts) (st0 rows) fl.e) HRD.out T5 (fun k hk => Nat.lt_of_lt_of_le hk.2 HB5.out.size) rfl (by omega) (enters_of Tryz.func32 (by kernel_rfl) rfl) (whole_ext _ _ _) hw).mono ?_
        rintro e w6 ⟨rfl, k1, k2, k3⟩
        have HX := Lib.hid (show parseT rows (ts, fl) = outQ rows (wholeP (envT false ts) (st0 rows) fl.e) by simp only [parseT, hnone])
        have hcase := out_read rows _ (whole_bad (envT false ts) (st0 rows) fl.e) (whole_out (envT false ts) (st0 rows) fl.e)
        have HB6 : Hid (Fr F w w6) := Lib.hid ((Fr.of_below HB5.out F).trans k2 (by
          rintro i hi (h | h | h)
          · have h' : i = wo.heap.size := h; omega
          · exact h.1
          · omega))
        have hno : ∀ k, w.heap.size ≤ k → k < wo.heap.size → ¬ (k = wo.heap.size ∨ (F k ∧ k < w.heap.size) ∨ k = wo.heap.size + 1 + 1) := by
          rintro k h1 h2 (h | h | h) <;> omega
        have Z6 := Lib.hid (k2.blk Z5 (hno _ (by omega) (by omega)))
        have hs6 := k2.size
        have hz6 := blk_lt Z6.out
        have hT6 := Lib.hid k1
        have K3 := Lib.hid k3
        clear HT Htok Ha ba bb bc lab lbc loa ba5 bb5 B5 B35 X5 Z5 T5 O5 hw k1 k2 k3 hno hA hBq hC
        clear HRD
        generalize wholeP (envT false ts) (st0 rows) fl.e = r at *
        rcases hcase with ⟨hne, hq⟩ | ⟨v, st, hr, hfl, hro, hq⟩
        · have HX2 := Lib.hid (HX.out.trans hq)
          clear HX hq
          generalize readOut (st0 rows) r = y at *
          obtain ⟨f, rws⟩ := y
          have hne1 : (f.e != 0) = true := bne_iff_ne.2 hne
          clear hne K3
          simp only [Flt.val]
          go_wp2_with fail
          generalize hW : World.alloc _ _ = w7
          have hb7 : Below w6.heap.size w6 w7 := by rw [← hW]; exact (Below.refl _ _).alloc (Nat.le_refl _) _
          have hx7 : w7.heap[w6.heap.size]? = some (.cells #[.int .i64 f.e, .int .i64 f.l, .int .i64 f.c, .int .i64 f.o] 40 (0, 0)) := by rw [← hW]; exact blk_new w6 _
          have Z7 := Lib.hid (blk_below' Z6.out hb7)
          have F7 := Lib.hid (HB6.out.trans (Fr.of_below hb7 F) (fun _ _ h => h))
          have T7 := Lib.hid (hT6.out.below hb7)
          clear hb7 hW
          obtain ⟨z0, z1', z2, z3, y0, y1, y2, y3⟩ := zero_flt Z7.out
          have x0 : w7.cell? ⟨w6.heap.size, 0, none⟩ = some (.int .i64 f.e) := (blk_cell hx7 0).trans rfl
          have x1 : w7.cell? ⟨w6.heap.size, 1, none⟩ = some (.int .i64 f.l) := (blk_cell hx7 1).trans rfl
          have x2 : w7.cell? ⟨w6.heap.size, 2, none⟩ = some (.int .i64 f.c) := (blk_cell hx7 2).trans rfl
          have x3 : w7.cell? ⟨w6.heap.size, 3, none⟩ = some (.int .i64 f.o) := (blk_cell hx7 3).trans rfl
          have n1 : ¬ w6.heap.size = w.heap.size := by omega
          clear hx7
          go_wp2_with fail
          go_region
          all_goals
            go_wp2_with fail
            generalize hW : World.drew _ = w9
            have hb9 : w9.heap[w.heap.size]? = some (.cells f.arr 40 (0, 0)) := by rw [← hW]; exact set4 _ _ _ _ Z7.out
            have hf9 : Fr (fun k => k = w.heap.size) w7 w9 := by rw [← hW]; exact (fr4 (S := fun k => k = w.heap.size) _ _ _ _ (Fr.refl _ w7) (fun _ => rfl)).drew
            have g0 : w9.cell? ⟨w.heap.size, 0, none⟩ = some (.int .i64 f.e) := (blk_cell hb9 0).trans rfl
            have g1 : w9.cell? ⟨w.heap.size, 1, none⟩ = some (.int .i64 f.l) := (blk_cell hb9 1).trans rfl
            have g2 : w9.cell? ⟨w.heap.size, 2, none⟩ = some (.int .i64 f.c) := (blk_cell hb9 2).trans rfl
            have g3 : w9.cell? ⟨w.heap.size, 3, none⟩ = some (.int .i64 f.o) := (blk_cell hb9 3).trans rfl
            have Hfin := Lib.hid (show ParsePost w p F (parseT rows (ts, fl)) (.returned (.tuple #[.int .i64 0, f.val])) w9 from by
              rw [HX2.out]
              exact ⟨rfl, (T7.out.fr hf9 (fun k hk _ e => hk.elim (fun h => by have := h.2; omega) (fun h => by have h' : w5.heap.size ≤ k := h; omega))).mono (fun k hk => hk.elim (fun h => .inl h.1) (fun h => .inr (by have h' : w5.heap.size ≤ k := h; omega))), F7.out.trans hf9 (fun i hi e => by omega)⟩)
            clear hb9 hf9 hW
            exact bodyPost_ret (v := .tuple #[.int .i64 0, f.val]) (by simp [results, Tryz.results12, go_sem, Flt.val, g0, g1, g2, g3]) rfl Hfin.out
        · have hid := (K3.out v st hr hfl).1
          have v0 : w6.cell? ⟨wo.heap.size + 1 + 1, 0, none⟩ = some (.int .i64 v) := (blk_cell hid 0).trans rfl
          have HX2 := Lib.hid (HX.out.trans hq)
          clear HX hq
          rw [hro] at hT6 ⊢
          clear hid hro hr hfl K3
          simp only [Flt.val, Flt.ok]
          go_wp2_with fail
          generalize hW : World.alloc _ _ = w7
          have hb7 : Below w6.heap.size w6 w7 := by rw [← hW]; exact (Below.refl _ _).alloc (Nat.le_refl _) _
          have hx7 : w7.heap[w6.heap.size]? = some (.cells #[.int .i64 0, .int .i64 0, .int .i64 0, .int .i64 0] 40 (0, 0)) := by rw [← hW]; exact blk_new w6 _
          have Z7 := Lib.hid (blk_below' Z6.out hb7)
          have F7 := Lib.hid (HB6.out.trans (Fr.of_below hb7 F) (fun _ _ h => h))
          have T7 := Lib.hid (hT6.out.below hb7)
          have v7 : w7.cell? ⟨wo.heap.size + 1 + 1, 0, none⟩ = some (.int .i64 v) := World.cell?_below' hb7 v0
          clear hb7 hW v0
          obtain ⟨z0, z1', z2, z3, y0, y1, y2, y3⟩ := zero_flt Z7.out
          have x0 : w7.cell? ⟨w6.heap.size, 0, none⟩ = some (.int .i64 0) := (blk_cell hx7 0).trans rfl
          have x1 : w7.cell? ⟨w6.heap.size, 1, none⟩ = some (.int .i64 0) := (blk_cell hx7 1).trans rfl
          have x2 : w7.cell? ⟨w6.heap.size, 2, none⟩ = some (.int .i64 0) := (blk_cell hx7 2).trans rfl
          have x3 : w7.cell? ⟨w6.heap.size, 3, none⟩ = some (.int .i64 0) := (blk_cell hx7 3).trans rfl
          have n1 : ¬ w6.heap.size = w.heap.size := by omega
          have n2 : ¬ wo.heap.size + 1 + 1 = w.heap.size := by omega
          clear hx7
          go_wp2_with fail
          go_region
          all_goals
            go_wp2_with fail
            generalize hW : World.drew _ = w9
            have hb9 : w9.heap[w.heap.size]? = some (.cells Flt.ok.arr 40 (0, 0)) := by rw [← hW]; exact set4 _ _ _ _ Z7.out
            have hf9 : Fr (fun k => k = w.heap.size) w7 w9 := by rw [← hW]; exact (fr4 (S := fun k => k = w.heap.size) _ _ _ _ (Fr.refl _ w7) (fun _ => rfl)).drew
            have g0 : w9.cell? ⟨w.heap.size, 0, none⟩ = some (.int .i64 0) := (blk_cell hb9 0).trans rfl
            have g1 : w9.cell? ⟨w.heap.size, 1, none⟩ = some (.int .i64 0) := (blk_cell hb9 1).trans rfl
            have g2 : w9.cell? ⟨w.heap.size, 2, none⟩ = some (.int .i64 0) := (blk_cell hb9 2).trans rfl
            have g3 : w9.cell? ⟨w.heap.size, 3, none⟩ = some (.int .i64 0) := (blk_cell hb9 3).trans rfl
            have Hfin := Lib.hid (show ParsePost w p F (parseT rows (ts, fl)) (.returned (.tuple #[.int .i64 v, Flt.ok.val])) w9 from by
              rw [HX2.out]
              exact ⟨rfl, (T7.out.fr hf9 (fun k hk _ e => hk.elim (fun h => by have := h.2; omega) (fun h => by have h' : w5.heap.size ≤ k := h; omega))).mono (fun k hk => hk.elim (fun h => .inl h.1) (fun h => .inr (by have h' : w5.heap.size ≤ k := h; omega))), F7.out.trans hf9 (fun i hi e => by omega)⟩)
            clear hb9 hf9 hW
            exact bodyPost_ret (v := .tuple #[.int .i64 v, Flt.ok.val]) (by simp [results, Tryz.results12, go_sem, Flt.val, Flt.ok, g0, g1, g2, g3]) rfl Hfin.out
end Go.Proofs.YtglnmkdlcbkpeaaGreatDoor
/- syntax: Take. -/
set_option linter.unusedVariables false
set_option linter.unusedSimpArgs false
namespace Go.Proofs.YtglnmkdlcbkpeaaGreatDoor
open Go.RowKit

structure TkR where
  v : Int
  n : Int
  f : Flt
  rows : List Nd
def takeR (rows : List Nd) (r : Rs) : TkR :=
  match r with
  | .ok v st => if st.full then ⟨0, 0, full30, rows⟩ else ⟨v, st.i, Flt.ok, st.rows⟩
  | .bad f _ => ⟨0, 0, f, rows⟩
  | .out => ⟨0, 0, Flt.ok, rows⟩
def takeT (rows : List Nd) (ts : List Tok) : TkR := takeR rows (formQ (envT true ts) (st0 rows))
theorem out_take (rows : List Nd) (r : Rs) (hb : Bad r) (ho : r ≠ .out) :
    ((readOut (st0 rows) r).1.e ≠ 0 ∧ takeR rows r = ⟨0, 0, (readOut (st0 rows) r).1, (readOut (st0 rows) r).2⟩) ∨
    (∃ v st, r = .ok v st ∧ st.full = false ∧ readOut (st0 rows) r = (Flt.ok, st.rows) ∧ takeR rows r = ⟨v, st.i, Flt.ok, st.rows⟩) := by
  cases r with
  | out => exact absurd rfl ho
  | bad f rws =>
    refine .inl ⟨?_, rfl⟩
    show f.e ≠ 0
    rcases hb with h | h <;> omega
  | ok v st =>
    cases hf : st.full with
    | true => exact .inl ⟨by simp [readOut, hf, full30], by simp [readOut, takeR, hf, st0]⟩
    | false => exact .inr ⟨v, st, rfl, hf, by simp [readOut, hf], by simp [takeR, hf]⟩
def TakePost (w : World) (p : Nat) (F : Nat → Prop) (x : TkR) (e : Ending) (w' : World) : Prop :=
  e = .returned (.tuple #[.int .i64 x.v, .int .i64 x.n, x.f.val]) ∧ Tab w' p x.rows (fun k => F k ∨ w.heap.size ≤ k) ∧ Fr F w w'
/-- Tokens that lie in memory. -/
def TkSl (w : World) (la : Option Addr) (ts : List Tok) : Prop :=
  0 < ts.length → ∃ b off, la = some ⟨b, off, none⟩ ∧ b < w.heap.size ∧ ∀ j u, (toksCells ts)[j]? = some u → w.cell? ⟨b, off + j, none⟩ = some u
theorem TkSl.below {w w1 : World} {la : Option Addr} {ts : List Tok} (h : TkSl w la ts) (hb : Below w.heap.size w w1) : TkSl w1 la ts := fun hn => by
  obtain ⟨b, off, e, h1, h2⟩ := h hn
  exact ⟨b, off, e, Nat.lt_of_lt_of_le h1 hb.size, fun j u hu => (hb.cell (p := ⟨b, off + j, none⟩) h1).trans (h2 j u hu)⟩

set_option maxRecDepth 100000 in
set_option maxHeartbeats 8000000 in
theorem taken_any (w : World) (p : Nat) (rows : List Nd) (F : Nat → Prop) (la : Option Addr) (lc : Nat) (ts : List Tok) (hTb : Tab w p rows F) (hl : rows.length ≤ 1024) (hd : rows.Nodup)
    (hts : TkSl w la ts) (hfar : ∀ a, la = some a → ¬ F a.block) (hlen : ts.length ≤ 1099511627000) (htok : ∀ t ∈ ts, t.ok) :
    Calls Tryz.prog 25 #[.pointer (some ⟨p, 0, none⟩), .slice la ts.length lc] w (TakePost w p F (takeT rows ts)) := by
  have hmf : ∀ (fn : Fn) (first cap : Array Value) (w : World), (Instr.makeFunc fn first cap).run Tryz.prog w = .ok (.func fn first cap) w := fun _ _ _ _ => rfl
  have HTb := Lib.hid hTb
  have Hd := Lib.hid hd
  have Htok := Lib.hid htok
  have Hts := Lib.hid hts
  have Hfar := Lib.hid hfar
  clear htok hTb hd hts hfar
  go_enter Tryz.func25, Tryz.ntmps25
  go_wp2_with fail
  have hb0 := (Below.refl w.heap.size w).alloc (Nat.le_refl _) (.cells #[.int .i64 0, .int .i64 0, .int .i64 0, .int .i64 0] 40 (0, 0))
  refine (known_tab _ p rows F (HTb.out.below hb0) hl Hd.out).mono ?_
  rintro e wo ⟨rfl, hb⟩
  have Z1 := Lib.hid (blk_below' (blk_new w _) hb)
  have HBo := Lib.hid (below_tail hb)
  have hso := HBo.out.size
  have hz1 := blk_lt Z1.out
  clear hb hb0
  go_wp2_with fail
  generalize hA : World.alloc _ (.cells #[.pointer (some ⟨p, 0, none⟩), .slice la ts.length lc, .int .i64 0, .int .i64 0, .int .i64 0, .bool true, .bool false] 85 (0, 0)) = wa
  generalize hBq : World.alloc _ (.cells #[.pointer (some ⟨wo.heap.size, 0, none⟩)] 83 (0, 0)) = wb
  generalize hC : World.alloc _ _ = w5
  have sa : wa.heap.size = wo.heap.size + 1 := by rw [← hA]; simp
  have sb : wb.heap.size = wo.heap.size + 1 + 1 := by rw [← hBq]; simp [sa]
  have sc : w5.heap.size = wo.heap.size + 1 + 1 + 1 := by rw [← hC]; simp [sb]
  have ba : wa.heap[wo.heap.size]? = some (.cells #[.pointer (some ⟨p, 0, none⟩), .slice la ts.length lc, .int .i64 0, .int .i64 0, .int .i64 0, .bool true, .bool false] 85 (0, 0)) := by rw [← hA]; exact blk_new wo _
  have bb : wb.heap[wo.heap.size + 1]? = some (.cells #[.pointer (some ⟨wo.heap.size, 0, none⟩)] 83 (0, 0)) := by rw [← hBq, ← sa]; exact blk_new wa _
  have bc : w5.heap[wo.heap.size + 1 + 1]? = some (.cells #[.int .i64 0] 3 (0, 0)) := by rw [← hC, ← sb]; exact blk_new wb _
  have lab : Below wa.heap.size wa wb := by rw [← hBq]; exact (Below.refl _ _).alloc (Nat.le_refl _) _
  have lbc : Below wb.heap.size wb w5 := by rw [← hC]; exact (Below.refl _ _).alloc (Nat.le_refl _) _
  have loa : Below wo.heap.size wo wa := by rw [← hA]; exact (Below.refl _ _).alloc (Nat.le_refl _) _
  have ba5 := blk_below' (blk_below' ba lab) lbc
  have bb5 := blk_below' bb lbc
  have B5o : Below wo.heap.size wo w5 := (loa.trans (lab.mono (by omega))).trans (lbc.mono (by omega))
  have B5 : Below w.heap.size w w5 := HBo.out.trans (B5o.mono hso)
  have Z5 := blk_below' Z1.out B5o
  have T5 := HTb.out.bound.below B5
  have S5 := Hts.out
  have hRD : RD w5 ⟨wo.heap.size, p, la, lc, ts, true, w5.heap.size, fun k => F k ∧ k < w.heap.size⟩ (st0 rows) :=
    ⟨ba5, T5.mono (fun k hk => .inl hk), fun hn => by
      obtain ⟨g, off, hg, hgl, hgc⟩ := S5 hn
      have hg' : la = some ⟨g, off, none⟩ := hg
      have hgn := Hfar.out _ hg'
      refine ⟨g, off, hg', ?_, fun h => hgn h.1, ?_, fun j u hu => (B5.cell (p := ⟨g, off + j, none⟩) hgl).trans (hgc j u hu)⟩
      · show g < w5.heap.size
        omega
      · show g ≠ wo.heap.size
        omega, Nat.le_refl _, fun h => by have h2 : wo.heap.size < w.heap.size := h.2; omega, by show wo.heap.size < w5.heap.size; omega, by show ts.length ≤ _; omega, Htok.out, hl, Hd.out, Nat.zero_le _, Nat.zero_le _, Nat.zero_le _⟩
  have HRD := Lib.hid hRD
  clear hRD
  have HB5 := Lib.hid B5
  have hw : ∀ w', Below w5.heap.size w5 w' → RD w' (Env.at ⟨wo.heap.size, p, la, lc, ts, true, w5.heap.size, fun k => F k ∧ k < w.heap.size⟩ w'.heap.size) (st0 rows) →
      Calls Tryz.prog 48 #[.pointer (some ⟨wo.heap.size + 1, 0, none⟩), .pointer (some ⟨wo.heap.size + 1 + 1, 0, none⟩)] w' (WPost w' (Env.at ⟨wo.heap.size, p, la, lc, ts, true, w5.heap.size, fun k => F k ∧ k < w.heap.size⟩ w'.heap.size) (wo.heap.size + 1 + 1) (formQ (envT true ts) (st0 rows))) := by
    intro w' hb' hR'
    have hs' := hb'.size
    have far : ∀ k, w.heap.size ≤ k → k < w5.heap.size → k ≠ wo.heap.size → (Env.at ⟨wo.heap.size, p, la, lc, ts, true, w5.heap.size, fun k => F k ∧ k < w.heap.size⟩ w'.heap.size).far k := fun k h1 h2 h3 => ⟨by show k < w'.heap.size; omega, fun h => by have h2 : k < w.heap.size := h.2; omega, h3⟩
    exact takeW_any w' _ (st0 rows) _ _ (.int .i64 0) hR' ((blk_cell (blk_below' bb5 hb') 0).trans rfl) (blk_below' bc hb') (far _ (by omega) (by omega) (by omega)) (far _ (by omega) (by omega) (by omega))
  refine (read_any w5 ⟨wo.heap.size, p, la, lc, ts, true, w5.heap.size, fun k => F k ∧ k < w.heap.size⟩ (st0 rows) 48 _ (wo.heap.size + 1 + 1) (formQ (envT true ts) (st0 rows)) HRD.out T5 (fun k hk => Nat.lt_of_lt_of_le hk.2 HB5.out.size) rfl (by omega) (enters_of Tryz.func48 (by kernel_rfl) rfl) (parse_ext _ _ _ _ _) hw).mono ?_
  rintro e w6 ⟨rfl, k1, k2, k3⟩
  have HX := Lib.hid (show takeT rows ts = takeR rows (formQ (envT true ts) (st0 rows)) from rfl)
  have hcase := out_take rows (formQ (envT true ts) (st0 rows)) (parse_bad _ _ _ _ _) (parse_fuel _ _ _ _ _ (Nat.lt_succ_self _))
  have HB6 : Hid (Fr F w w6) := Lib.hid ((Fr.of_below HB5.out F).trans k2 (by
    rintro i hi (h | h | h)
    · have h' : i = wo.heap.size := h; omega
    · exact h.1
    · omega))
  have hno : ∀ k, w.heap.size ≤ k → k < wo.heap.size → ¬ (k = wo.heap.size ∨ (F k ∧ k < w.heap.size) ∨ k = wo.heap.size + 1 + 1) := by
    rintro k h1 h2 (h | h | h) <;> omega
  have Z6 := Lib.hid (k2.blk Z5 (hno _ (by omega) (by omega)))
  have hs6 := k2.size
  have hz6 := blk_lt Z6.out
  have hT6 := Lib.hid k1
  have K3 := Lib.hid k3
  have hc6 := Lib.hid ((World.cell?_of_block (a := ⟨wo.heap.size + 1, 0, none⟩) (k2.block (wo.heap.size + 1) (by omega) (by
    rintro (h | h | h)
    · have h' : wo.heap.size + 1 = wo.heap.size := h; omega
    · have := h.2; omega
    · omega))).trans ((blk_cell bb5 0).trans rfl))
  clear Htok ba bb bc lab lbc loa ba5 bb5 B5 B5o Z5 T5 S5 hw k1 k2 k3 hno hA hBq hC
  clear HRD
  generalize formQ (envT true ts) (st0 rows) = r at *
  rcases hcase with ⟨hne, hq⟩ | ⟨v, st, hr, hfl, hro, hq⟩
  · have HX2 := Lib.hid (HX.out.trans hq)
    clear HX hq hc6
    generalize readOut (st0 rows) r = y at *
    obtain ⟨f, rws⟩ := y
    have hne1 : (f.e != 0) = true := bne_iff_ne.2 hne
    clear hne K3
    simp only [Flt.val]
    go_wp2_with fail
    generalize hW : World.alloc _ _ = w7
    have hb7 : Below w6.heap.size w6 w7 := by rw [← hW]; exact (Below.refl _ _).alloc (Nat.le_refl _) _
    have hx7 : w7.heap[w6.heap.size]? = some (.cells #[.int .i64 f.e, .int .i64 f.l, .int .i64 f.c, .int .i64 f.o] 40 (0, 0)) := by rw [← hW]; exact blk_new w6 _
    have Z7 := Lib.hid (blk_below' Z6.out hb7)
    have F7 := Lib.hid (HB6.out.trans (Fr.of_below hb7 F) (fun _ _ h => h))
    have T7 := Lib.hid (hT6.out.below hb7)
    clear hb7 hW
    obtain ⟨z0, z1', z2, z3, y0, y1, y2, y3⟩ := zero_flt Z7.out
    have x0 : w7.cell? ⟨w6.heap.size, 0, none⟩ = some (.int .i64 f.e) := (blk_cell hx7 0).trans rfl
    have x1 : w7.cell? ⟨w6.heap.size, 1, none⟩ = some (.int .i64 f.l) := (blk_cell hx7 1).trans rfl
    have x2 : w7.cell? ⟨w6.heap.size, 2, none⟩ = some (.int .i64 f.c) := (blk_cell hx7 2).trans rfl
    have x3 : w7.cell? ⟨w6.heap.size, 3, none⟩ = some (.int .i64 f.o) := (blk_cell hx7 3).trans rfl
    have n1 : ¬ w6.heap.size = w.heap.size := by omega
    clear hx7
    go_wp2_with fail
    go_region
    all_goals
      go_wp2_with fail
      generalize hW : World.drew _ = w9
      have hb9 : w9.heap[w.heap.size]? = some (.cells f.arr 40 (0, 0)) := by rw [← hW]; exact set4 _ _ _ _ Z7.out
      have hf9 : Fr (fun k => k = w.heap.size) w7 w9 := by rw [← hW]; exact (fr4 (S := fun k => k = w.heap.size) _ _ _ _ (Fr.refl _ w7) (fun _ => rfl)).drew
      have g0 : w9.cell? ⟨w.heap.size, 0, none⟩ = some (.int .i64 f.e) := (blk_cell hb9 0).trans rfl
      have g1 : w9.cell? ⟨w.heap.size, 1, none⟩ = some (.int .i64 f.l) := (blk_cell hb9 1).trans rfl
      have g2 : w9.cell? ⟨w.heap.size, 2, none⟩ = some (.int .i64 f.c) := (blk_cell hb9 2).trans rfl
      have g3 : w9.cell? ⟨w.heap.size, 3, none⟩ = some (.int .i64 f.o) := (blk_cell hb9 3).trans rfl
      have Hfin := Lib.hid (show TakePost w p F (takeT rows ts) (.returned (.tuple #[.int .i64 0, .int .i64 0, f.val])) w9 from by
        rw [HX2.out]
        exact ⟨rfl, (T7.out.fr hf9 (fun k hk _ e => hk.elim (fun h => by have := h.2; omega) (fun h => by have h' : w5.heap.size ≤ k := h; omega))).mono (fun k hk => hk.elim (fun h => .inl h.1) (fun h => .inr (by have h' : w5.heap.size ≤ k := h; omega))), F7.out.trans hf9 (fun i hi e => by omega)⟩)
      clear hb9 hf9 hW
      exact bodyPost_ret (v := .tuple #[.int .i64 0, .int .i64 0, f.val]) (by simp [results, Tryz.results25, go_sem, Flt.val, g0, g1, g2, g3]) rfl Hfin.out
  · obtain ⟨hid, hpi⟩ := K3.out v st hr hfl
    have v0 : w6.cell? ⟨wo.heap.size + 1 + 1, 0, none⟩ = some (.int .i64 v) := (blk_cell hid 0).trans rfl
    have HX2 := Lib.hid (HX.out.trans hq)
    clear HX hq
    rw [hro] at hT6 ⊢
    clear hid hro hr hfl K3
    have HP6 := Lib.hid hpi
    clear hpi
    simp only [Flt.val, Flt.ok]
    go_wp2_with fail
    generalize hW : World.alloc _ _ = w7
    have hb7 : Below w6.heap.size w6 w7 := by rw [← hW]; exact (Below.refl _ _).alloc (Nat.le_refl _) _
    have hx7 : w7.heap[w6.heap.size]? = some (.cells #[.int .i64 0, .int .i64 0, .int .i64 0, .int .i64 0] 40 (0, 0)) := by rw [← hW]; exact blk_new w6 _
    have Z7 := Lib.hid (blk_below' Z6.out hb7)
    have F7 := Lib.hid (HB6.out.trans (Fr.of_below hb7 F) (fun _ _ h => h))
    have T7 := Lib.hid (hT6.out.below hb7)
    have v7 : w7.cell? ⟨wo.heap.size + 1 + 1, 0, none⟩ = some (.int .i64 v) := World.cell?_below' hb7 v0
    have r7 : w7.cell? ⟨wo.heap.size + 1, 0, none⟩ = some (.pointer (some ⟨wo.heap.size, 0, none⟩)) := World.cell?_below' hb7 hc6.out
    have i7 : w7.cell? ⟨wo.heap.size, 2, none⟩ = some (.int .i64 st.i) := World.cell?_below' hb7 HP6.out
    clear hb7 hW v0 hc6
    obtain ⟨z0, z1', z2, z3, y0, y1, y2, y3⟩ := zero_flt Z7.out
    have x0 : w7.cell? ⟨w6.heap.size, 0, none⟩ = some (.int .i64 0) := (blk_cell hx7 0).trans rfl
    have x1 : w7.cell? ⟨w6.heap.size, 1, none⟩ = some (.int .i64 0) := (blk_cell hx7 1).trans rfl
    have x2 : w7.cell? ⟨w6.heap.size, 2, none⟩ = some (.int .i64 0) := (blk_cell hx7 2).trans rfl
    have x3 : w7.cell? ⟨w6.heap.size, 3, none⟩ = some (.int .i64 0) := (blk_cell hx7 3).trans rfl
    have n1 : ¬ w6.heap.size = w.heap.size := by omega
    have n2 : ¬ wo.heap.size + 1 + 1 = w.heap.size := by omega
    have n3 : ¬ wo.heap.size + 1 = w.heap.size := by omega
    have n4 : ¬ wo.heap.size = w.heap.size := by omega
    clear hx7
    go_wp2_with fail
    go_region
    all_goals
      go_wp2_with fail
      generalize hW : World.drew _ = w9
      have hb9 : w9.heap[w.heap.size]? = some (.cells Flt.ok.arr 40 (0, 0)) := by rw [← hW]; exact set4 _ _ _ _ Z7.out
      have hf9 : Fr (fun k => k = w.heap.size) w7 w9 := by rw [← hW]; exact (fr4 (S := fun k => k = w.heap.size) _ _ _ _ (Fr.refl _ w7) (fun _ => rfl)).drew
      have g0 : w9.cell? ⟨w.heap.size, 0, none⟩ = some (.int .i64 0) := (blk_cell hb9 0).trans rfl
      have g1 : w9.cell? ⟨w.heap.size, 1, none⟩ = some (.int .i64 0) := (blk_cell hb9 1).trans rfl
      have g2 : w9.cell? ⟨w.heap.size, 2, none⟩ = some (.int .i64 0) := (blk_cell hb9 2).trans rfl
      have g3 : w9.cell? ⟨w.heap.size, 3, none⟩ = some (.int .i64 0) := (blk_cell hb9 3).trans rfl
      have Hfin := Lib.hid (show TakePost w p F (takeT rows ts) (.returned (.tuple #[.int .i64 v, .int .i64 st.i, Flt.ok.val])) w9 from by
        rw [HX2.out]
        exact ⟨rfl, (T7.out.fr hf9 (fun k hk _ e => hk.elim (fun h => by have := h.2; omega) (fun h => by have h' : w5.heap.size ≤ k := h; omega))).mono (fun k hk => hk.elim (fun h => .inl h.1) (fun h => .inr (by have h' : w5.heap.size ≤ k := h; omega))), F7.out.trans hf9 (fun i hi e => by omega)⟩)
      clear hb9 hf9 hW
      exact bodyPost_ret (v := .tuple #[.int .i64 v, .int .i64 st.i, Flt.ok.val]) (by simp [results, Tryz.results25, go_sem, Flt.val, Flt.ok, g0, g1, g2, g3]) rfl Hfin.out
end Go.Proofs.YtglnmkdlcbkpeaaGreatDoor
