/-
  Package syntax: what width, write and Print answer.
-/
import Derived.Test.YtglnmkdlcbkpeaaGreatDoorGV
import Derived.Deep.RegionWith
/- syntax: width. -/
set_option linter.unusedVariables false
set_option linter.unusedSimpArgs false
namespace Go.Proofs.YtglnmkdlcbkpeaaGreatDoor
open Go.RowKit

theorem under_ii : Tryz.prog.underlying 58 = some (.map 3 3) := by kernel_rfl
theorem under_int : ∃ b, Tryz.prog.underlying 3 = some (.int b) := ⟨.i64, by kernel_rfl⟩
/-- Entries that tell widths. -/
def WEs (rows : List Nd) (es : List MapEntry) : Prop := ∀ e ∈ es, ∃ a : Int, e.key = .int .i64 a ∧ e.val = .int .i64 (wd rows a)
def KN (rows : List Nd) (w : World) (m : Nat) : Prop := ∃ es clock, w.heap[m]? = some (.map es clock) ∧ WEs rows es.toList
theorem find_int (rows : List Nd) (b : IntKind) (id : Int) : ∀ (l : List MapEntry) (i : Nat), WEs rows l →
    Instr.findNow (.int b) (.int .i64 id) l i = some none ∨ ∃ j e, Instr.findNow (.int b) (.int .i64 id) l i = some (some (i + j, .int .i64 (wd rows id))) ∧ l[j]? = some e ∧ e.key = .int .i64 id
  | [], i, h => .inl rfl
  | e :: es, i, h => by
    obtain ⟨a, hk, hv⟩ := h e (by simp)
    by_cases ha : id = a
    · subst ha
      exact .inr ⟨0, e, by simp [Instr.findNow, Instr.sameNow, hk, hv], rfl, hk⟩
    · have hne : (id == a) = false := beq_eq_false_iff_ne.2 ha
      rcases find_int rows b id es (i + 1) (fun x hx => h x (by simp [hx])) with h1 | ⟨j, x, h1, h2, h3⟩
      · exact .inl (by simp [Instr.findNow, Instr.sameNow, hk, hne, h1])
      · exact .inr ⟨j + 1, x, by simp [Instr.findNow, Instr.sameNow, hk, hne, h1]; omega, by simpa using h2, h3⟩
theorem run_find {t : TypeId} {d : TypeDesc} {k : Value} {l : List MapEntry} {r : Option (Nat × Value)} {w : World} (hd : Tryz.prog.underlying t = some d) (h : Instr.findNow d k l 0 = some r) : (Instr.findKey t k l).run Tryz.prog w = .ok r w := by
  simp [Instr.findKey, run_underlying hd, h]
theorem check_int (id : Int) (w : World) (b : Bool) : (Instr.checkKey b 10000 3 (.int .i64 id)).run Tryz.prog w = .ok () w := by
  obtain ⟨k, hk⟩ := under_int
  unfold Instr.checkKey
  simp [run_underlying hk]
theorem kn_look {rows : List Nd} {w : World} {m : Nat} (h : KN rows w m) (id : Int) :
    (∀ W : World, W.heap[m]? = w.heap[m]? → (Instr.lookup 58 (.map (some m)) (.int .i64 id) true).run Tryz.prog W = .ok (.tuple #[.int .i64 (wd rows id), .bool true]) W) ∨
    (∀ W : World, W.heap[m]? = w.heap[m]? → (Instr.lookup 58 (.map (some m)) (.int .i64 id) true).run Tryz.prog W = .ok (.tuple #[.int .i64 0, .bool false]) W) := by
  obtain ⟨es, clock, hm, he⟩ := h
  obtain ⟨k, hk⟩ := under_int
  rcases find_int rows k id es.toList 0 he with h1 | ⟨j, e, h1, _, _⟩
  · refine .inr fun W hW => ?_
    have hz : (zeroValue 3).run Tryz.prog W = .ok (.int .i64 0) W := by kernel_rfl
    simp [Instr.lookup, run_underlying under_ii, run_getMap (hW.trans hm), check_int, run_find hk h1, hz]
  · refine .inl fun W hW => ?_
    simp [Instr.lookup, run_underlying under_ii, run_getMap (hW.trans hm), check_int, run_find hk h1]
theorem kn_upd {rows : List Nd} {w : World} {m : Nat} (h : KN rows w m) (id : Int) :
    ∃ o, (∀ W : World, W.heap[m]? = w.heap[m]? → (Instr.mapUpdate 58 (.map (some m)) (.int .i64 id) (.int .i64 (wd rows id))).run Tryz.prog W = .ok () (putBlk W m o)) ∧
      (∀ W : World, W.heap[m]? = some o → KN rows W m ∧ (Instr.lookup 58 (.map (some m)) (.int .i64 id) false).run Tryz.prog W = .ok (.int .i64 (wd rows id)) W) := by
  obtain ⟨es, clock, hm, he⟩ := h
  obtain ⟨k, hk⟩ := under_int
  rcases find_int rows k id es.toList 0 he with h1 | ⟨j, e, h1, h2, h3⟩
  · refine ⟨.map (es.push { key := .int .i64 id, val := .int .i64 (wd rows id), born := clock }) (clock + 1), fun W hW => ?_, fun W hW => ?_⟩
    · simp [Instr.mapUpdate, run_underlying under_ii, run_getMap (hW.trans hm), check_int, run_find hk h1, run_setMap (hW.trans hm)]
    · have he2 : WEs rows (es.push { key := .int .i64 id, val := .int .i64 (wd rows id), born := clock }).toList := by
        intro x hx
        simp at hx
        rcases hx with hx | hx
        · exact he x (by simpa using hx)
        · subst hx; exact ⟨id, rfl, rfl⟩
      refine ⟨⟨_, _, hW, he2⟩, ?_⟩
      rcases find_int rows k id _ 0 he2 with g1 | ⟨j, e, g1, _, _⟩
      · exfalso
        have : ∀ (l : List MapEntry) (i : Nat), WEs rows l → Instr.findNow (.int k) (.int .i64 id) (l ++ [{ key := .int .i64 id, val := .int .i64 (wd rows id), born := clock }]) i ≠ some none := by
          intro l
          induction l with
          | nil => intro i _; simp [Instr.findNow, Instr.sameNow]
          | cons y ys ih =>
            intro i hl
            obtain ⟨a, hk1, _⟩ := hl y (by simp)
            by_cases ha : id = a
            · subst ha; simp [Instr.findNow, Instr.sameNow, hk1]
            · have hne : (id == a) = false := beq_eq_false_iff_ne.2 ha
              simpa [Instr.findNow, Instr.sameNow, hk1, hne] using ih (i + 1) (fun x hx => hl x (by simp [hx]))
        exact this es.toList 0 he (by simpa using g1)
      · clear he2
        generalize es.push { key := Value.int .i64 id, val := Value.int .i64 (wd rows id), born := clock } = es2 at hW g1
        simp [Instr.lookup, run_underlying under_ii, run_getMap hW, check_int, run_find hk g1]
  · have hj : es[j]? = some e := by simpa using h2
    have hstay : ∀ W : World, (Instr.keyThatStays (.int .i64 id) (.int .i64 id)).run Tryz.prog W = .ok (.int .i64 id) W := fun W => by simp [Instr.keyThatStays, Instr.sameBits]
    refine ⟨.map (es.modify j fun x => { x with key := .int .i64 id, val := .int .i64 (wd rows id) }) clock, fun W hW => ?_, fun W hW => ?_⟩
    · simp [Instr.mapUpdate, run_underlying under_ii, run_getMap (hW.trans hm), check_int, run_find hk h1, run_setMap (hW.trans hm), hj, h3, hstay]
    · have he2 : WEs rows (es.modify j fun x => { x with key := .int .i64 id, val := .int .i64 (wd rows id) }).toList := by
        intro x hx
        rw [Array.toList_modify] at hx
        obtain ⟨i, hi, rfl⟩ := List.getElem_of_mem hx
        rw [List.getElem_modify]
        split
        · exact ⟨id, rfl, rfl⟩
        · exact he _ (List.getElem_mem _)
      refine ⟨⟨_, _, hW, he2⟩, ?_⟩
      rcases find_int rows k id _ 0 he2 with g1 | ⟨j', e', g1, _, _⟩
      · exfalso
        have : ∀ (l : List MapEntry) (i j : Nat) (e : MapEntry), WEs rows l → l[j]? = some e → Instr.findNow (.int k) (.int .i64 id) (l.modify j fun x => { x with key := .int .i64 id, val := .int .i64 (wd rows id) }) i ≠ some none := by
          intro l
          induction l with
          | nil => intro i j e _ h; simp at h
          | cons y ys ih =>
            intro i j e hl h
            cases j with
            | zero => simp [List.modify, Instr.findNow, Instr.sameNow]
            | succ j =>
              obtain ⟨a, hk1, _⟩ := hl y (by simp)
              by_cases ha : id = a
              · subst ha; simp [List.modify, Instr.findNow, Instr.sameNow, hk1]
              · have hne : (id == a) = false := beq_eq_false_iff_ne.2 ha
                simpa [List.modify, Instr.findNow, Instr.sameNow, hk1, hne] using ih (i + 1) j e (fun x hx => hl x (by simp [hx])) (by simpa using h)
        exact this es.toList 0 j e he h2 (by rw [Array.toList_modify] at g1; exact g1)
      · clear he2
        generalize (es.modify j fun x => { x with key := Value.int .i64 id, val := Value.int .i64 (wd rows id) }) = es2 at hW g1
        simp [Instr.lookup, run_underlying under_ii, run_getMap hW, check_int, run_find hk g1]
end Go.Proofs.YtglnmkdlcbkpeaaGreatDoor
/- syntax: width, the walk. -/
set_option linter.unusedVariables false
set_option linter.unusedSimpArgs false
namespace Go.Proofs.YtglnmkdlcbkpeaaGreatDoor
open Go.RowKit

def WdPost (rows : List Nd) (w : World) (m : Nat) (id : Int) (e : Ending) (w' : World) : Prop :=
  e = .returned (.int .i64 (wd rows id)) ∧ KN rows w' m ∧ Fr (fun k => k = m) w w'
theorem wsum_take (rows : List Nd) (ps ws : List Int) (i : Nat) (h1 : i < ps.length) (h2 : i < ws.length) :
    wsum rows ((ps.zip ws).take (i + 1)) = wsum rows ((ps.zip ws).take i) + wd rows ps[i] + rd2 rows ps[i] ws[i] := by
  have hz : i < (ps.zip ws).length := by simp; omega
  rw [List.take_succ_eq_append_getElem hz]
  simp [wsum]
  omega
theorem wsum_le (rows : List Nd) : ∀ (l : List (Int × Int)), wsum rows l ≤ l.length * 65539
  | [] => by simp [wsum]
  | x :: l => by
    have h1 := wsum_le rows l
    have h2 := wd_le rows x.1
    have h3 : rd2 rows x.1 x.2 ≤ 2 := by unfold rd2; split <;> omega
    simp only [wsum, List.map_cons, List.sum_cons, List.length_cons] at *
    omega
theorem KN.fr {rows : List Nd} {w w1 : World} {m : Nat} {S : Nat → Prop} (h : KN rows w m) (hf : Fr S w w1) (hm : ¬ S m) : KN rows w1 m := by
  obtain ⟨es, c, h1, h2⟩ := h
  exact ⟨es, c, hf.blk h1 hm, h2⟩
theorem KN.below {rows : List Nd} {w w1 : World} {m : Nat} (h : KN rows w m) (hb : Below w.heap.size w w1) : KN rows w1 m := by
  obtain ⟨es, c, h1, h2⟩ := h
  exact ⟨es, c, blk_below' h1 hb, h2⟩
theorem SlI.fr {w w1 : World} {a : Option Addr} {l : List Int} {S : Nat → Prop} (h : SlI w a l) (hf : Fr S w w1) (hS : ∀ k cs fr, w.heap[k]? = some (.cells cs 3 fr) → ¬ S k) : SlI w1 a l := fun hn => by
  obtain ⟨b, e, h1⟩ := h hn
  exact ⟨b, e, hf.blk h1 (hS b _ _ h1)⟩
/-- Rows' names are short. -/
def szR (rows : List Nd) : Prop := ∀ i (h : i < rows.length), rows[i].s.size ≤ 31
theorem pcs_size {rows : List Nd} (hz : szR rows) (id : Int) : (pcs rows (nodeAt rows id)).1.size ≤ 31 := by
  have hn : (nodeAt rows id).s.size ≤ 31 := by
    unfold nodeAt
    split
    · rename_i h
      simp only [hasB, Bool.and_eq_true, decide_eq_true_eq] at h
      have hi : id.toNat < rows.length := by omega
      have := hz id.toNat hi
      simpa [hi] using this
    · exact Nat.zero_le _
  unfold pcs
  repeat' split
  all_goals first | exact hn | exact (by decide : tAnd.size ≤ 31) | exact (by decide : tOr.size ≤ 31) | exact (by decide : tImp.size ≤ 31) | exact (by decide : sTrue.size ≤ 31) | exact (by decide : sFalse.size ≤ 31) | exact (by decide : sNot.size ≤ 31)

set_option maxRecDepth 100000 in
set_option maxHeartbeats 4000000 in
theorem width_tab (rows : List Nd) (hwf : wfR rows) (hsz : szR rows) (hl : rows.length ≤ 1024) : ∀ (n : Nat) (id : Int) (w : World) (p : Nat) (F : Nat → Prop) (m : Nat), 0 ≤ id → id < n → id < rows.length → Tab w p rows F → (∀ k, F k → k ≠ m) → KN rows w m →
    Calls Tryz.prog 19 #[.pointer (some ⟨p, 0, none⟩), .int .i64 id, .map (some m)] w (WdPost rows w m id) := by
  intro n
  induction n with
  | zero => intro id w p F m h0 h1; omega
  | succ n ih =>
    intro id w p F m h0 h1 h2 hT hm hK
    have HT := Lib.hid hT
    have Hm := Lib.hid hm
    have HK := Lib.hid hK
    have Hih := Lib.hid ih
    have Hpl := Lib.hid (pcs_lt hwf id h0 h2)
    have Hpz := Lib.hid (pcs_len rows (nodeAt rows id))
    have hps := pcs_size hsz id
    have Hwd := Lib.hid (wd_eq hwf id h0 h2)
    clear hT hm ih hwf hsz
    rcases kn_look hK id with hlk | hlk
    · have hlk1 := hlk w rfl
      clear hlk hK
      go_enter Tryz.func19, Tryz.ntmps19
      go_wp2_with fail
      go_ret
      exact ⟨rfl, HK.out, Fr.refl _ _⟩
    · have hlk1 := hlk w rfl
      clear hlk hK
      go_enter Tryz.func19, Tryz.ntmps19
      go_wp2_with fail
      refine (node_tab w p rows F id HT.out hl).mono ?_
      rintro e w1 ⟨rfl, hb1⟩
      have HB1 := Lib.hid hb1
      have hs1 := hb1.size
      clear hb1 hlk1
      generalize nodeAt rows id = d at *
      have hpc := pieces_tab (w1.alloc (.cells #[.int .i64 d.k, .string d.s, .int .i64 d.l, .int .i64 d.r] 54)) p rows F d (HT.out.below (below_alloc2 HB1.out _)) hl
      have HP := Lib.hid hpc
      clear hpc
      generalize pcs rows d = x at *
      obtain ⟨s, ps, ws⟩ := x
      obtain ⟨k, ds, dl, dr⟩ := d
      simp only [Nd.val] at *
      go_wp2_with fail
      refine HP.out.mono ?_
      rintro e w2 ⟨a, c, b, mm, rfl, hsa, hsb, hb2⟩
      have HB2 : Hid (Below w.heap.size w w2) := Lib.hid ((below_alloc2 HB1.out _).trans (hb2.mono (by simp; omega)))
      have HSa := Lib.hid hsa
      have HSb := Lib.hid hsb
      have hs2 := HB2.out.size
      clear hb2 hsa hsb HP
      go_wp2_with fail
      have hpz2 := Hpz.out.2
      have hmw : m < w.heap.size := by obtain ⟨es, cl, h, _⟩ := HK.out; exact blk_lt h
      go_loopw [14, 42] (fun u v wr => ∃ i : Nat, i ≤ ps.length ∧ u = .int .i64 ((s.size + wsum rows ((ps.zip ws).take i) : Nat) : Int) ∧ v = .int .i64 i ∧ KN rows wr m ∧ Fr (fun k => k = m) w2 wr) (fun _ v _ => ps.length - (intOf v).toNat)
      case atStart => exact ⟨0, by omega, by simp [wsum], rfl, HK.out.below HB2.out, Fr.refl _ _⟩
      case round =>
        obtain ⟨i, hi, rfl, rfl, hK, hf⟩ := hrel
        obtain ⟨wo, rfl⟩ : ∃ wo : World, wo = wr := ⟨_, rfl⟩
        have HKo := Lib.hid hK
        have Hfo := Lib.hid hf
        have hso := hf.size
        clear hK hf
        by_cases hlt : i < ps.length
        · have hlt2 : (i : Int) < ps.length := by omega
          have hltw : (i : Int) < ws.length := by have := Hpz.out.1; omega
          have Hw1 := Lib.hid (wsum_take rows ps ws i hlt (by have := Hpz.out.1; omega))
          have hwl := wsum_le rows ((ps.zip ws).take i)
          have hzl : ((ps.zip ws).take i).length ≤ 2 := by simp; omega
          obtain ⟨ga, rfl, hga, ca⟩ := (HSa.out.fr Hfo.out (fun k cs fr h e => by obtain ⟨es, cl, h2, _⟩ := HK.out.below HB2.out; rw [e] at h; rw [h] at h2; cases h2)).at_ i hlt
          have HPi := Lib.hid (Hpl.out ps[i] (List.getElem_mem hlt))
          have HSo := Lib.hid (HSb.out.fr Hfo.out (fun k cs fr h e => by obtain ⟨es, cl, h2, _⟩ := HK.out.below HB2.out; rw [e] at h; rw [h] at h2; cases h2))
          have HTo := Lib.hid ((HT.out.below HB2.out).fr Hfo.out (fun k hk _ e => Hm.out k hk e))
          have hpw := wd_le rows ps[i]
          generalize wsum rows ((ps.zip ws).take i) = acc at *
          have hacc : acc ≤ 131078 := by omega
          obtain ⟨gb, rfl, hgb, cb⟩ := HSo.out.at_ i (by have := Hpz.out.1; omega)
          generalize ws[i] = y at *
          generalize ps[i] = x at *
          go_wp2_with fail
          refine (Hih.out x wo p F m (by have := HPi.out; omega) (by have := HPi.out; omega) (by have := HPi.out; omega) HTo.out Hm.out HKo.out).mono ?_
          rintro e w3 ⟨rfl, hK3, hf3⟩
          have HK3 := Lib.hid hK3
          have Hf3 := Lib.hid hf3
          have hs3 := hf3.size
          have HT3 := Lib.hid (HTo.out.fr hf3 (fun k hk _ e => Hm.out k hk e))
          have cb3 : w3.cell? ⟨gb, i, none⟩ = some (.int .i64 y) := (World.cell?_of_block (hf3.block gb hgb (fun e => by
            obtain ⟨b', e', h1⟩ := HSo.out (by have := Hpz.out.1; omega)
            cases e'
            obtain ⟨es, cl, h2, _⟩ := HKo.out
            have e2 : gb = m := e
            rw [e2, h2] at h1
            cases h1))).trans cb
          have hgb3 : gb < w3.heap.size := by omega
          clear hK3 hf3 ca cb
          go_wp2_with fail
          go_region_with ((go_at_call 41; refine (level_tab _ p rows F x (by exact HT3.out) hl).mono ?_; rintro e w4 ⟨rfl, hb4⟩; have cb4 := (hb4.cell (p := ⟨gb, i, none⟩) (by exact hgb3)).trans (by exact cb3)))
          all_goals
            replace hb4 : Below w3.heap.size w3 w4 := ((Below.refl w3.heap.size w3).drew).trans hb4
            have HK4 := Lib.hid (HK3.out.below hb4)
            have HF4 := Lib.hid ((Hfo.out.trans Hf3.out (fun _ _ h => h)).trans (Fr.of_below hb4 (fun k => k = m)) (fun _ _ h => h))
            clear hb4 cb3 cb4
            by_cases hlv : lvl rows x < y
            · have Hrd := Lib.hid (show rd2 rows x y = 2 by simp [rd2, hlv])
              go_wp2_with fail
              exact ⟨⟨i + 1, by omega, congrArg (Value.int .i64) (by rw [Hw1.out, Hrd.out]; omega), by simp, HK4.out, HF4.out⟩, by simp [intOf]; omega⟩
            · have Hrd := Lib.hid (show rd2 rows x y = 0 by simp [rd2, hlv])
              go_wp2_with fail
              exact ⟨⟨i + 1, by omega, congrArg (Value.int .i64) (by rw [Hw1.out, Hrd.out]; omega), by simp, HK4.out, HF4.out⟩, by simp [intOf]; omega⟩
        · have hlt2 : ¬ (i : Int) < ps.length := by omega
          have hwl := wsum_le rows (ps.zip ws)
          have hzl : (ps.zip ws).length ≤ 2 := by simp; omega
          have ht : (ps.zip ws).take i = ps.zip ws := List.take_of_length_le (by simp; omega)
          rw [ht]
          clear ht
          generalize wsum rows (ps.zip ws) = acc at *
          have hacc : acc ≤ 131078 := by omega
          obtain ⟨o, hu, hg⟩ := kn_upd HKo.out id
          have hu1 := hu wo rfl
          have hmo : m < wo.heap.size := by omega
          have hpb : (putBlk wo m o).heap[m]? = some o := by
            show (wo.heap.setIfInBounds m o)[m]? = _
            rw [Array.getElem?_setIfInBounds_self_of_lt hmo]
          have hg1 := (hg _ hpb).2
          have Hfin : Hid (WdPost rows w m id (.returned (.int .i64 (wd rows id))) (putBlk wo m o)) := by
            refine ⟨rfl, (hg _ hpb).1, ?_⟩
            have hf := (Fr.of_below HB2.out (fun k => k = m)).trans Hfo.out (fun _ _ h => h)
            refine ⟨hf.os, hf.tape, hf.output, by simpa [putBlk] using hf.size, fun q hq hn => ?_⟩
            show (wo.heap.setIfInBounds m o)[q]? = _
            rw [Array.getElem?_setIfInBounds_ne (Ne.symm hn)]
            exact hf.block q hq hn
          have hcast : ((min (s.size + acc) 65537 : Nat) : Int) = min ((s.size : Int) + acc) 65537 := by omega
          rw [Hwd.out, hcast] at hu1
          clear hu hg hcast hpb
          go_wp2_with fail
          go_ret
          exact Hfin.out
end Go.Proofs.YtglnmkdlcbkpeaaGreatDoor
/- syntax: write. -/
set_option linter.unusedVariables false
set_option linter.unusedSimpArgs false
namespace Go.Proofs.YtglnmkdlcbkpeaaGreatDoor
open Go.RowKit

def upT (s : List UInt8) (ts : List (List UInt8)) (i : Nat) : List UInt8 :=
  if ts.length = 2 then (if i = 0 then [] else if i = 1 then ts.getD 0 [] else ts.getD 0 [] ++ s ++ ts.getD 1 []) else s ++ (ts.take i).flatten
theorem upT_zero (s : List UInt8) (ts : List (List UInt8)) : upT s ts 0 = if ts.length = 2 then [] else s := by
  unfold upT
  split <;> simp
theorem upT_succ (s : List UInt8) (ts : List (List UInt8)) (i : Nat) (h : i < ts.length) (h2 : ts.length ≤ 2) : upT s ts (i + 1) = upT s ts i ++ (if i = 1 then s else []) ++ ts[i] := by
  match ts, i, h, h2 with
  | [a], 0, _, _ => simp [upT]
  | [a, b], 0, _, _ => simp [upT]
  | [a, b], 1, _, _ => simp [upT]
theorem upT_end (s : List UInt8) (ts : List (List UInt8)) (h2 : ts.length ≤ 2) : upT s ts ts.length = joinT s ts := by
  match ts, h2 with
  | [], _ => simp [upT, joinT]
  | [a], _ => simp [upT, joinT]
  | [a, b], _ => simp [upT, joinT]
theorem upT_le (s : List UInt8) (ts : List (List UInt8)) (i : Nat) (h : i ≤ ts.length) (h2 : ts.length ≤ 2) : (upT s ts i).length ≤ (joinT s ts).length := by
  match ts, i, h, h2 with
  | [], 0, _, _ => simp [upT, joinT]
  | [a], 0, _, _ => simp [upT, joinT]
  | [a], 1, _, _ => simp [upT, joinT]
  | [a, b], 0, _, _ => simp [upT, joinT]
  | [a, b], 1, _, _ => simp [upT, joinT]
  | [a, b], 2, _, _ => simp [upT, joinT]

theorem Bd.below {B b : Nat} {l : List UInt8} {w w1 : World} (h : Bd B b l w) (hb : Below w.heap.size w w1) : Bd B b l w1 := by
  have key : ∀ p, Lib.BuilderAt 62 5 B b p (Lib.byteCells l) w → Lib.BuilderAt 62 5 B b p (Lib.byteCells l) w1 := by
    rintro p ⟨h1, v, h2, h3, h4⟩
    exact ⟨h1, v, blk_below' h2 hb, own_move h3 (fun k hk => hb.block k (by obtain ⟨cs, hc⟩ := own_typed h3 k hk; exact blk_lt hc)), h4⟩
  exact h.imp (key _) (key _)
theorem wopen_any (B b : Nat) (l : List UInt8) (w : World) (h : Bd B b l w) (hlen : l.length + 1 ≤ 140737488355328) (hBw : B ≤ w.heap.size) :
    Calls Tryz.prog 42 #[.pointer (some ⟨b, 0, none⟩), .int .u8 40] w (WrB B b w (l ++ [40]) .nilIface) := wbyte_any B b l 40 w h hlen hBw
theorem wshut_any (B b : Nat) (l : List UInt8) (w : World) (h : Bd B b l w) (hlen : l.length + 1 ≤ 140737488355328) (hBw : B ≤ w.heap.size) :
    Calls Tryz.prog 42 #[.pointer (some ⟨b, 0, none⟩), .int .u8 41] w (WrB B b w (l ++ [41]) .nilIface) := wbyte_any B b l 41 w h hlen hBw
theorem fr8_of_below {B b : Nat} {w w1 w2 : World} (hb : Below w.heap.size w w1) (h : Fr (S8 B w1 b) w1 w2) : Fr (S8 B w b) w w2 := fr8_trans (Fr.of_below hb _) h
theorem SlI.keep {w w1 : World} {b : Nat} {l : List Int} {S : Nat → Prop} (h : SlI w (some ⟨b, 0, none⟩) l) (hn : 0 < l.length) (hf : Fr S w w1) (hS : ∀ k cs fr, w.heap[k]? = some (.cells cs 3 fr) → ¬ S k) (i : Nat) : w1.cell? ⟨b, i, none⟩ = w.cell? ⟨b, i, none⟩ := by
  obtain ⟨b', e, h1⟩ := h hn
  cases e
  exact World.cell?_of_block (hf.block b (blk_lt h1) (hS b _ _ h1))
/-- What stands round a text. -/
def opT (r : Bool) : List UInt8 := if r then [40] else []
def shT (r : Bool) : List UInt8 := if r then [41] else []
theorem round_opT (r : Bool) (l : List UInt8) : roundT r l = opT r ++ l ++ shT r := by
  cases r <;> simp [roundT, opT, shT]

set_option maxRecDepth 100000 in
set_option maxHeartbeats 4000000 in
theorem write_tab (rows : List Nd) (hwf : wfR rows) (hl : rows.length ≤ 1024) : ∀ (n : Nat) (id want : Int) (w : World) (p : Nat) (F : Nat → Prop) (B b : Nat) (l : List UInt8), 0 ≤ id → id < n → id < rows.length → Tab w p rows F → (∀ k, F k → k < B) → Bd B b l w → B ≤ w.heap.size → l.length + (tx rows id want).length ≤ 1099511627776 →
    Calls Tryz.prog 20 #[.pointer (some ⟨b, 0, none⟩), .pointer (some ⟨p, 0, none⟩), .int .i64 id, .int .i64 want] w (WrB B b w (l ++ tx rows id want) (.tuple #[])) := by
  intro n
  induction n with
  | zero => intro id want w p F B b l h0 h1; omega
  | succ n ih =>
    intro id want w p F B b l h0 h1 h2 hT hF hb hB hlen
    have HT := Lib.hid hT
    have HF := Lib.hid hF
    have Hb := Lib.hid hb
    have Hih := Lib.hid ih
    have Hpl := Lib.hid (pcs_lt hwf id h0 h2)
    have Hpz := Lib.hid (pcs_len rows (nodeAt rows id))
    have Htx := Lib.hid (tx_eq hwf id want h0 h2)
    clear hT hF hb ih hwf
    go_enter Tryz.func20, Tryz.ntmps20
    go_wp2_with fail
    refine (node_tab w p rows F id HT.out hl).mono ?_
    rintro e w1 ⟨rfl, hb1⟩
    have HB1 := Lib.hid hb1
    have hs1 := hb1.size
    clear hb1
    generalize nodeAt rows id = d at *
    have HP := Lib.hid (pieces_tab (w1.alloc (.cells #[.int .i64 d.k, .string d.s, .int .i64 d.l, .int .i64 d.r] 54)) p rows F d (HT.out.below (below_alloc2 HB1.out _)) hl)
    generalize pcs rows d = x at *
    obtain ⟨s, ps, ws⟩ := x
    obtain ⟨k, ds, dl, dr⟩ := d
    simp only [Nd.val] at *
    go_wp2_with fail
    refine HP.out.mono ?_
    rintro e w2 ⟨a, c, c2, mm, rfl, hsa, hsb, hb2⟩
    have HB2 : Hid (Below w.heap.size w w2) := Lib.hid ((below_alloc2 HB1.out _).trans (hb2.mono (by simp; omega)))
    have HSa := Lib.hid hsa
    have HSb := Lib.hid hsb
    have hs2 := HB2.out.size
    clear hb2 hsa hsb HP
    go_wp2_with fail
    refine (level_tab w2 p rows F id (HT.out.below HB2.out) hl).mono ?_
    rintro e w3 ⟨rfl, hb3⟩
    have HB3 : Hid (Below w.heap.size w w3) := Lib.hid (HB2.out.trans (hb3.mono hs2))
    have HSa3 := Lib.hid (HSa.out.below hb3)
    have HSb3 := Lib.hid (HSb.out.below hb3)
    have hs3 := HB3.out.size
    have HT3 := Lib.hid (HT.out.below HB3.out)
    clear hb3 HSa HSb HB1 HB2
    have Hb3 := Lib.hid (Hb.out.below HB3.out)
    have hpz := Hpz.out.2
    have Hts : Hid (∃ ts : List (List UInt8), ts = (ps.zip ws).map (fun x => tx rows x.1 x.2) ∧ ts.length = ps.length) := Lib.hid ⟨_, rfl, by have := Hpz.out.1; simp; omega⟩
    obtain ⟨ts, hts, htl⟩ := Hts.out
    have htx := Htx.out
    rw [← hts, round_opT] at htx
    go_upto_if 34 with fail
    generalize decide (lvl rows id < want) = r at *
    rw [htx] at hlen
    have Htx2 := Lib.hid htx
    have HtsE := Lib.hid hts
    have Htl := Lib.hid htl
    have hl3 : l.length + ((opT r).length + (joinT s.data.toList ts).length + (shT r).length) ≤ 1099511627776 := by simpa [Nat.add_assoc] using hlen
    have hjs := upT_le s.data.toList ts 0 (by omega) (by omega)
    clear htx hts htl hlen Htx Hts Hb HT
    go_cut [] (fun wx => Bd B b (l ++ opT r) wx ∧ Fr (S8 B w3 b) w3 wx)
    case first =>
      cases r with
      | true =>
        have Ho := Lib.hid (show opT true = [40] from rfl)
        have hl4 : l.length + 1 ≤ 140737488355328 := by have := hl3; rw [Ho.out] at this; simp at this; omega
        go_wp2_with (go_at_call 42; refine (wopen_any B b l w3 Hb3.out hl4 (by omega)).mono ?_; rintro e w4 ⟨rfl, hb4, hf4⟩)
        go_meet
        exact ⟨by rw [Ho.out]; exact hb4, hf4⟩
      | false =>
        have Ho := Lib.hid (show opT false = [] from rfl)
        go_wp2_with fail
        go_meet
        exact ⟨by rw [Ho.out, List.append_nil]; exact Hb3.out, Fr.refl _ _⟩
    case rest =>
      obtain ⟨hb4, hf4⟩ := hcut
      have Hb4 := Lib.hid hb4
      have Hf4 := Lib.hid hf4
      have hs4 := hf4.size
      clear hb4 hf4
      generalize hlo : l ++ opT r = lo at *
      have hlo2 : lo.length = l.length + (opT r).length := by rw [← hlo]; simp
      have Hlo := Lib.hid hlo
      have Hup0 := Lib.hid (upT_zero s.data.toList ts)
      clear hlo
      go_upto_if 39 with fail
      go_cut [] (fun wx => Bd B b (lo ++ upT s.data.toList ts 0) wx ∧ Fr (S8 B w3 b) w3 wx)
      case first =>
        by_cases h2l : ps.length = 2
        · have hu : upT s.data.toList ts 0 = [] := by rw [Hup0.out, if_pos (by rw [Htl.out]; exact h2l)]
          have Hu := Lib.hid hu
          have hne : ((ps.length : Int) != 2) = false := by simp [h2l]
          clear h2l hu
          go_wp2_with fail
          go_meet
          exact ⟨by rw [Hu.out, List.append_nil]; exact Hb4.out, Hf4.out⟩
        · have hu : upT s.data.toList ts 0 = s.data.toList := by rw [Hup0.out, if_neg (by rw [Htl.out]; exact h2l)]
          rw [hu] at hjs
          have Hu := Lib.hid hu
          have hne : ((ps.length : Int) != 2) = true := by simp; omega
          have hsz : s.data.toList.length = s.size := rfl
          have hl5 : lo.length + s.size ≤ 140737488355328 := by omega
          clear h2l hu
          go_wp2_with (go_at_call 43; refine (wstr_any B b lo s _ Hb4.out hl5 (by omega)).mono ?_; rintro e w5 ⟨rfl, hb5, hf5⟩)
          go_meet
          exact ⟨by rw [Hu.out]; exact hb5, fr8_trans Hf4.out hf5⟩
      case rest =>
        obtain ⟨hb5, hf5⟩ := hcut
        have Hb5 := Lib.hid hb5
        have Hf5 := Lib.hid hf5
        have hs5 := hf5.size
        clear hb5 hf5 Hb4 Hf4
        go_wp2_with fail
        go_loopw [45] (fun v wr => ∃ i : Nat, i ≤ ps.length ∧ v = .int .i64 i ∧ Bd B b (lo ++ upT s.data.toList ts i) wr ∧ Fr (S8 B w3 b) w3 wr) (fun v _ => ps.length - (intOf v).toNat)
        case atStart => exact ⟨0, by omega, rfl, Hb5.out, Hf5.out⟩
        case round =>
          obtain ⟨i, hi, rfl, hb, hf⟩ := hrel
          obtain ⟨wo, rfl⟩ : ∃ wo : World, wo = wr := ⟨_, rfl⟩
          have Hbo := Lib.hid hb
          have Hfo := Lib.hid hf
          have hso := hf.size
          clear hb hf
          by_cases hlt : i < ps.length
          · have hlt2 : (i : Int) < ps.length := by omega
            have hltw : (i : Int) < ws.length := by have := Hpz.out.1; omega
            have Hus := Lib.hid (upT_succ s.data.toList ts i (by have := Htl.out; omega) (by have := Htl.out; omega))
            have hul := upT_le s.data.toList ts (i + 1) (by have := Htl.out; omega) (by have := Htl.out; omega)
            have hti : Hid (ts[i]'(by have := Htl.out; omega) = tx rows ps[i] (ws[i]'(by have := Hpz.out.1; omega))) := Lib.hid (by have := HtsE.out; subst this; simp)
            obtain ⟨ga, rfl, hga, ca⟩ := (HSa3.out.fr Hfo.out (fun k cs fr h => Hb3.out.far h (by decide) (by decide))).at_ i hlt
            have HPi := Lib.hid (Hpl.out ps[i] (List.getElem_mem hlt))
            have HSo := Lib.hid (HSb3.out.fr Hfo.out (fun k cs fr h => Hb3.out.far h (by decide) (by decide)))
            have HTo := Lib.hid (HT3.out.fr Hfo.out (fun k hk _ e => by have := HF.out k hk; have := e.1; omega))
            obtain ⟨gb, rfl, hgb, cb⟩ := HSo.out.at_ i (by have := Hpz.out.1; omega)
            have hul2 := hul
            rw [Hus.out] at hul2
            simp only [List.length_append] at hul2
            generalize ts[i]'(by have := Htl.out; omega) = ti at *
            generalize ws[i]'(by have := Hpz.out.1; omega) = y at *
            generalize ps[i] = x at *
            have hn0 : 0 < ws.length := by omega
            by_cases hi1 : i = 1
            · have hi2 : ((i : Int) == 1) = true := by simp [hi1]
              have Hus2 : Hid (upT s.data.toList ts (i + 1) = (upT s.data.toList ts i ++ s.data.toList) ++ ti) := Lib.hid (by have := Hus.out; rw [if_pos hi1] at this; exact this)
              rw [if_pos hi1] at hul2
              have hsz : s.data.toList.length = s.size := rfl
              have hl6 : (lo ++ upT s.data.toList ts i).length + s.size ≤ 140737488355328 := by rw [List.length_append]; omega
              clear hi1 Hus hul
              go_wp2_with fail
              refine (wstr_any B b (lo ++ upT s.data.toList ts i) s wo Hbo.out hl6 (by omega)).mono ?_
              rintro e w4 ⟨rfl, hb4, hf4⟩
              have cb4 := (HSo.out.keep hn0 hf4 (fun k cs fr h => Hbo.out.far h (by decide) (by decide)) i).trans cb
              have Hb4 := Lib.hid hb4
              have Hf4 := Lib.hid (fr8_trans Hfo.out hf4)
              have hs4 := hf4.size
              have HT4 := Lib.hid (HTo.out.fr hf4 (fun k hk _ e => by have := HF.out k hk; have := e.1; omega))
              have hl7 : (lo ++ upT s.data.toList ts i ++ s.data.toList).length + (tx rows x y).length ≤ 1099511627776 := by
                rw [← hti.out]
                simp only [List.length_append]
                omega
              clear hb4 hf4 ca cb
              go_wp2_with fail
              refine (Hih.out x y w4 p F B b (lo ++ upT s.data.toList ts i ++ s.data.toList) (by have := HPi.out; omega) (by have := HPi.out; omega) (by have := HPi.out; omega) HT4.out HF.out Hb4.out (by omega) hl7).mono ?_
              rintro e w5 ⟨rfl, hb5, hf5⟩
              have Hb5 : Hid (Bd B b (lo ++ upT s.data.toList ts (i + 1)) w5) := Lib.hid (by rw [Hus2.out, hti.out]; simpa [List.append_assoc] using hb5)
              have Hf5 := Lib.hid (fr8_trans Hf4.out hf5)
              clear hb5 hf5 cb4
              go_wp2_with fail
              exact ⟨⟨i + 1, by omega, by simp, Hb5.out, Hf5.out⟩, by simp [intOf]; omega⟩
            · have hi2 : ((i : Int) == 1) = false := by simp; omega
              have Hus2 : Hid (upT s.data.toList ts (i + 1) = upT s.data.toList ts i ++ ti) := Lib.hid (by have := Hus.out; rw [if_neg hi1, List.append_nil] at this; exact this)
              rw [if_neg hi1] at hul2
              have hl7 : (lo ++ upT s.data.toList ts i).length + (tx rows x y).length ≤ 1099511627776 := by
                rw [← hti.out]
                simp only [List.length_append, List.length_nil] at *
                omega
              clear hi1 Hus hul
              go_wp2_with fail
              refine (Hih.out x y wo p F B b (lo ++ upT s.data.toList ts i) (by have := HPi.out; omega) (by have := HPi.out; omega) (by have := HPi.out; omega) HTo.out HF.out Hbo.out (by omega) hl7).mono ?_
              rintro e w5 ⟨rfl, hb5, hf5⟩
              have Hb5 : Hid (Bd B b (lo ++ upT s.data.toList ts (i + 1)) w5) := Lib.hid (by rw [Hus2.out, hti.out]; simpa [List.append_assoc] using hb5)
              have Hf5 := Lib.hid (fr8_trans Hfo.out hf5)
              clear hb5 hf5 ca cb
              go_wp2_with fail
              exact ⟨⟨i + 1, by omega, by simp, Hb5.out, Hf5.out⟩, by simp [intOf]; omega⟩
          · have hlt2 : ¬ (i : Int) < ps.length := by omega
            have hjt : upT s.data.toList ts i = joinT s.data.toList ts := by rw [show i = ts.length by have := Htl.out; omega]; exact upT_end _ _ (by have := Htl.out; omega)
            rw [hjt] at Hbo
            have hl8 : (lo ++ joinT s.data.toList ts).length + 1 ≤ 140737488355328 := by simp only [List.length_append]; omega
            clear hjt
            cases r with
            | true =>
              go_wp2_with fail
              refine (wshut_any B b (lo ++ joinT s.data.toList ts) wo Hbo.out hl8 (by omega)).mono ?_
              rintro e w4 ⟨rfl, hb4, hf4⟩
              have Hfin : Hid (WrB B b w (l ++ tx rows id want) (.tuple #[]) (.returned (.tuple #[])) w4) :=
                Lib.hid ⟨rfl, by rw [Htx2.out, ← List.append_assoc, ← List.append_assoc, Hlo.out]; exact hb4, fr8_of_below HB3.out (fr8_trans Hfo.out hf4)⟩
              clear hb4 hf4
              go_wp2_with fail
              go_end0
              exact Hfin.out
            | false =>
              have Hfin : Hid (WrB B b w (l ++ tx rows id want) (.tuple #[]) (.returned (.tuple #[])) wo) :=
                Lib.hid ⟨rfl, by rw [Htx2.out, ← List.append_assoc, ← List.append_assoc, Hlo.out]; simpa [shT] using Hbo.out, fr8_of_below HB3.out Hfo.out⟩
              go_wp2_with fail
              go_end0
              exact Hfin.out
end Go.Proofs.YtglnmkdlcbkpeaaGreatDoor
/- syntax: Print. -/
set_option linter.unusedVariables false
set_option linter.unusedSimpArgs false
namespace Go.Proofs.YtglnmkdlcbkpeaaGreatDoor
open Go.RowKit

def PrPost (w : World) (x : List UInt8 × Int) (e : Ending) (w' : World) : Prop :=
  e = .returned (.tuple #[.string ⟨x.1.toArray⟩, .int .i64 x.2]) ∧ Below w.heap.size w w'

set_option maxRecDepth 100000 in
set_option maxHeartbeats 4000000 in
theorem print_tab (w : World) (p : Nat) (rows : List Nd) (F : Nat → Prop) (id : Int) (hT : Tab w p rows F) (hl : rows.length ≤ 1024) (hd : rows.Nodup) (hwf : wfR rows) (hsz : szR rows) :
    Calls Tryz.prog 6 #[.pointer (some ⟨p, 0, none⟩), .int .i64 id] w (PrPost w (printR rows id)) := by
  have hmm := @run_makeMap Tryz.prog
  have HT := Lib.hid hT
  have Hd := Lib.hid hd
  have Hwf := Lib.hid hwf
  have Hsz := Lib.hid hsz
  have HX := Lib.hid (show printR rows id = if hasB rows.length id then (if 65536 < wd rows id then ([], 11) else (tx rows id 0, 0)) else ([], 31) from rfl)
  generalize printR rows id = x at *
  clear hT hd hwf hsz
  go_enter Tryz.func6, Tryz.ntmps6
  go_wp2_with fail
  refine (known_tab w p rows F HT.out hl Hd.out).mono ?_
  rintro e w1 ⟨rfl, hb1⟩
  have HB1 := Lib.hid hb1
  have hs1 := hb1.size
  clear hb1
  go_wp2_with fail
  refine (node_tab w1 p rows F id (HT.out.below HB1.out) hl).mono ?_
  rintro e w2 ⟨rfl, hb2⟩
  have HB2 := Lib.hid (HB1.out.trans (hb2.mono hs1))
  have hs2 := HB2.out.size
  clear hb2
  cases hh : hasB rows.length id with
  | false =>
    have Hx := Lib.hid (HX.out.trans (by simp [hh] : _ = (([], 31) : List UInt8 × Int)))
    generalize nodeAt rows id = d at *
    obtain ⟨k, ds, dl, dr⟩ := d
    simp only [Nd.val] at *
    clear HX hh
    go_wp2_with fail
    go_ret2
    rw [Hx.out]
    exact ⟨rfl, below_alloc2 HB2.out _⟩
  | true =>
    have hid := hh
    simp only [hasB, Bool.and_eq_true, decide_eq_true_eq] at hid
    obtain ⟨h0, h1⟩ := hid
    have HX2 := Lib.hid (HX.out.trans (by simp [hh] : _ = (if 65536 < wd rows id then (([], 11) : List UInt8 × Int) else (tx rows id 0, 0))))
    generalize nodeAt rows id = d at *
    obtain ⟨k, ds, dl, dr⟩ := d
    simp only [Nd.val] at *
    clear HX hh
    go_wp2_with fail
    generalize hW : World.alloc _ (Obj.map _ _) = w3
    have hb23 : Below w2.heap.size w2 w3 := by rw [← hW]; exact below_alloc2 ((Below.refl _ _).alloc (Nat.le_refl _) _) _
    have HB3 := Lib.hid (HB2.out.trans (hb23.mono hs2))
    have HK3 : Hid (KN rows w3 (w2.heap.size + 1)) := Lib.hid (by
      rw [← hW]
      refine ⟨#[], 0, ?_, fun e he => by simp at he⟩
      have e1 : (w2.alloc (.cells #[.int .i64 k, .string ds, .int .i64 dl, .int .i64 dr] 54)).heap.size = w2.heap.size + 1 := by simp
      rw [← e1]
      exact blk_new _ _)
    have hs3 : w3.heap.size = w2.heap.size + 1 + 1 := by rw [← hW]; simp
    have Hs3 := Lib.hid hs3
    have HT3 := Lib.hid (HT.out.bound.below HB3.out)
    clear hW hb23 hs3
    refine (width_tab rows Hwf.out Hsz.out hl rows.length id w3 p _ (w2.heap.size + 1) h0 h1 h1 HT3.out (fun k hk e => by have := hk.2; omega) HK3.out).mono ?_
    rintro e w4 ⟨rfl, hK4, hf4⟩
    have HB4 : Hid (Below w.heap.size w w4) := Lib.hid (HB3.out.trans ⟨hf4.os, hf4.tape, hf4.output, hf4.size, fun k hk => hf4.block k (by have := Hs3.out; omega) (fun e => by have e' : k = w2.heap.size + 1 := e; omega)⟩)
    have hs4 := HB4.out.size
    have hwl := wd_le rows id
    clear hK4 hf4
    by_cases hbig : 65536 < wd rows id
    · have Hx := Lib.hid (HX2.out.trans (if_pos hbig))
      have hb2 : (65536 : Int) < wd rows id := by omega
      clear HX2
      go_wp2_with fail
      go_ret2
      rw [Hx.out]
      exact ⟨rfl, HB4.out⟩
    · have Hx := Lib.hid (HX2.out.trans (if_neg hbig))
      have hb2 : ¬ (65536 : Int) < wd rows id := by omega
      have hlen : (tx rows id 0).length ≤ 65536 := by
        rw [tx_zero Hwf.out id h0 h1]
        unfold wd at hbig
        omega
      clear HX2
      go_wp2_with fail
      generalize hW : World.alloc _ _ = w5
      have Hb5 : Hid (Bd w4.heap.size w4.heap.size [] w5) := Lib.hid (by rw [← hW]; exact Lib.fresh_isBuilder _ _ w4)
      have hb45 : Below w4.heap.size w4 w5 := by rw [← hW]; exact (Below.refl _ _).alloc (Nat.le_refl _) _
      have HB5 := Lib.hid (HB4.out.trans (hb45.mono hs4))
      have hs5 := hb45.size
      have HT5 := Lib.hid (HT.out.bound.below HB5.out)
      clear hW hb45
      refine (write_tab rows Hwf.out hl rows.length id 0 w5 p _ w4.heap.size w4.heap.size [] h0 h1 h1 HT5.out (fun k hk => by have := hk.2; omega) Hb5.out hs5 (by simp; omega)).mono ?_
      rintro e w6 ⟨rfl, hb6, hf6⟩
      have Hb6 := Lib.hid hb6
      have HB6 := Lib.hid (HB5.out.trans ((fr8_below hf6 hs5).mono hs4))
      have hs6 := hf6.size
      clear hb6 hf6
      go_wp2_with fail
      refine (Tryz.Builder_String_any w4.heap.size w4.heap.size (tx rows id 0) w6 Hb6.out (by omega)).mono ?_
      rintro e w7 ⟨rfl, hb7⟩
      have HB7 := Lib.hid (HB6.out.trans (hb7.mono hs4))
      clear hb7
      go_wp2_with fail
      go_ret2
      rw [Hx.out]
      exact ⟨rfl, HB7.out⟩
end Go.Proofs.YtglnmkdlcbkpeaaGreatDoor
