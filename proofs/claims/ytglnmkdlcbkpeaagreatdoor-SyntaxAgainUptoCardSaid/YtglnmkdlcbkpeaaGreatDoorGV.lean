/-
  Package syntax: a formula's text, said without a program; level, bot, pieces, and strings.Builder.
-/
import Derived.Test.YtglnmkdlcbkpeaaGreatDoorGR
import Derived.Test.YtglnmkdlcbkpeaaGreatDoorGC
import Derived.Test.YtglnmkdlcbkpeaaGreatDoorGP
import Derived.Test.YtglnmkdlcbkpeaaGreatDoorShelf
/- syntax: a formula's text, said without a program. -/
set_option linter.unusedVariables false
set_option linter.unusedSimpArgs false
namespace Go.Proofs.YtglnmkdlcbkpeaaGreatDoor
open Go.RowKit

def tAnd : ByteArray := ⟨#[32, 38, 32]⟩
def tOr : ByteArray := ⟨#[32, 124, 32]⟩
def tImp : ByteArray := ⟨#[32, 45, 62, 32]⟩
def isBot (rows : List Nd) (i : Int) : Bool := decide ((nodeAt rows i).k = 2)
/-- How strongly a formula is held together. -/
def lvl (rows : List Nd) (i : Int) : Int :=
  if (nodeAt rows i).k = 3 then 2 else if (nodeAt rows i).k = 4 then 1 else if (nodeAt rows i).k = 5 then (if isBot rows (nodeAt rows i).r then 3 else 0) else 3
/-- A formula's parts: what stands between, which they are, what they want. -/
def pcs (rows : List Nd) (d : Nd) : ByteArray × List Int × List Int :=
  if d.k = 3 then (tAnd, [d.l, d.r], [2, 3]) else if d.k = 4 then (tOr, [d.l, d.r], [1, 2]) else if d.k = 5 then
    (if isBot rows d.r then (if isBot rows d.l then (sTrue, [], []) else (sNot, [d.l], [3])) else (tImp, [d.l, d.r], [1, 0]))
  else if d.k = 2 then (sFalse, [], []) else (d.s, [], [])
def joinT (s : List UInt8) : List (List UInt8) → List UInt8
  | [a, b] => a ++ s ++ b
  | l => s ++ l.flatten
def roundT (b : Bool) (l : List UInt8) : List UInt8 := if b then [40] ++ l ++ [41] else l
def txF (rows : List Nd) : Nat → Int → Int → List UInt8
  | 0, _, _ => []
  | f + 1, id, want => roundT (decide (lvl rows id < want)) (joinT (pcs rows (nodeAt rows id)).1.data.toList (((pcs rows (nodeAt rows id)).2.1.zip (pcs rows (nodeAt rows id)).2.2).map fun x => txF rows f x.1 x.2))
def tx (rows : List Nd) (id want : Int) : List UInt8 := txF rows rows.length id want
/-- Parts stand ahead. -/
def wfR (rows : List Nd) : Prop := ∀ i (h : i < rows.length), (rows[i].k = 3 ∨ rows[i].k = 4 ∨ rows[i].k = 5) → 0 ≤ rows[i].l ∧ rows[i].l < i ∧ 0 ≤ rows[i].r ∧ rows[i].r < i

theorem wf_of_ok {rows : List Nd} (h : okRows rows) : wfR rows := by
  intro i hi hk
  have h1 := h i hi
  rw [okAt] at h1
  have hl : (rows.take i).length = i := by rw [List.length_take]; omega
  by_cases hf : fitsN (rows.take i).length rows[i] = 0
  · rw [hl, fitsN] at hf
    have k1 : ¬ rows[i].k = 1 := by omega
    have k2 : ¬ rows[i].k = 2 := by omega
    rw [if_neg k1, if_neg k2, if_pos hk] at hf
    split at hf
    · rename_i h2
      simp only [hasB, Bool.and_eq_true, decide_eq_true_eq] at h2
      omega
    · omega
  · rw [putR_unfit hf] at h1
    have := congrArg (fun x => x.2.1) h1
    exact absurd this hf
theorem nodeAt_get (rows : List Nd) (i : Nat) (h : i < rows.length) : nodeAt rows i = rows[i] := by simp [nodeAt, hasB, h]
theorem pcs_lt {rows : List Nd} (hw : wfR rows) (id : Int) (h0 : 0 ≤ id) (h1 : id < rows.length) : ∀ p ∈ (pcs rows (nodeAt rows id)).2.1, 0 ≤ p ∧ p < id := by
  obtain ⟨i, rfl⟩ := Int.eq_ofNat_of_zero_le h0
  have hi : i < rows.length := by omega
  rw [nodeAt_get rows i hi]
  have h := hw i hi
  intro p hp
  unfold pcs at hp
  split at hp
  · rename_i h3
    have := h (.inl h3)
    simp at hp
    rcases hp with rfl | rfl <;> omega
  · split at hp
    · rename_i h3
      have := h (.inr (.inl h3))
      simp at hp
      rcases hp with rfl | rfl <;> omega
    · split at hp
      · rename_i h3
        have := h (.inr (.inr h3))
        split at hp
        · split at hp
          · simp at hp
          · simp at hp; subst hp; omega
        · simp at hp
          rcases hp with rfl | rfl <;> omega
      · split at hp <;> simp at hp
theorem pcs_len (rows : List Nd) (d : Nd) : (pcs rows d).2.1.length = (pcs rows d).2.2.length ∧ (pcs rows d).2.1.length ≤ 2 := by
  unfold pcs
  repeat' split
  all_goals simp
theorem txF_fuel {rows : List Nd} (hw : wfR rows) : ∀ (f g : Nat) (id want : Int), 0 ≤ id → id < rows.length → id < f → id < g → txF rows f id want = txF rows g id want := by
  intro f
  induction f with
  | zero => intro g id want h0 h1 h2 h3; omega
  | succ f ih =>
    intro g id want h0 h1 h2 h3
    cases g with
    | zero => omega
    | succ g =>
      rw [txF, txF]
      congr 2
      refine List.map_congr_left fun x hx => ?_
      have hp := pcs_lt hw id h0 h1 x.1 (List.of_mem_zip hx).1
      exact ih g x.1 x.2 (by omega) (by omega) (by omega) (by omega)
theorem tx_eq {rows : List Nd} (hw : wfR rows) (id want : Int) (h0 : 0 ≤ id) (h1 : id < rows.length) :
    tx rows id want = roundT (decide (lvl rows id < want)) (joinT (pcs rows (nodeAt rows id)).1.data.toList (((pcs rows (nodeAt rows id)).2.1.zip (pcs rows (nodeAt rows id)).2.2).map fun x => tx rows x.1 x.2)) := by
  have hn : ∃ n, rows.length = n + 1 := ⟨rows.length - 1, by omega⟩
  obtain ⟨n, hn⟩ := hn
  rw [tx, hn, txF]
  congr 2
  refine List.map_congr_left fun x hx => ?_
  have hp := pcs_lt hw id h0 h1 x.1 (List.of_mem_zip hx).1
  rw [tx]
  exact txF_fuel hw _ _ x.1 x.2 (by omega) (by omega) (by omega) (by omega)
def bare (rows : List Nd) (id : Int) : List UInt8 := tx rows id (-1)
theorem lvl_nonneg (rows : List Nd) (id : Int) : 0 ≤ lvl rows id ∧ lvl rows id ≤ 3 := by
  unfold lvl
  repeat' split
  all_goals omega
theorem tx_bare {rows : List Nd} (hw : wfR rows) (id want : Int) (h0 : 0 ≤ id) (h1 : id < rows.length) : tx rows id want = roundT (decide (lvl rows id < want)) (bare rows id) := by
  rw [bare, tx_eq hw id want h0 h1, tx_eq hw id (-1) h0 h1]
  have := lvl_nonneg rows id
  have h : decide (lvl rows id < -1) = false := by simp; omega
  rw [h]
  rfl
/-- How long a formula's text is, told up to a bound. -/
def wd (rows : List Nd) (id : Int) : Nat := min (bare rows id).length 65537
def rd2 (rows : List Nd) (id want : Int) : Nat := if lvl rows id < want then 2 else 0
theorem round_len (b : Bool) (l : List UInt8) : (roundT b l).length = l.length + (if b then 2 else 0) := by
  cases b
  · rfl
  · simp [roundT]
def wsum (rows : List Nd) (l : List (Int × Int)) : Nat := (l.map fun x => wd rows x.1 + rd2 rows x.1 x.2).sum
theorem joinT_len (s : List UInt8) (l : List (List UInt8)) : (joinT s l).length = s.length + (l.map List.length).sum := by
  unfold joinT
  split
  · simp; omega
  · simp [List.length_flatten]
theorem min_sum (l : List Nat) : ∀ (s : Nat), min (s + (l.map (min · 65537)).sum) 65537 = min (s + l.sum) 65537 := by
  induction l with
  | nil => intro s; rfl
  | cons x xs ih => intro s; simp only [List.map_cons, List.sum_cons]; have := ih (s + x); have := ih (s + min x 65537); omega
theorem wd_eq {rows : List Nd} (hw : wfR rows) (id : Int) (h0 : 0 ≤ id) (h1 : id < rows.length) :
    wd rows id = min ((pcs rows (nodeAt rows id)).1.size + wsum rows ((pcs rows (nodeAt rows id)).2.1.zip (pcs rows (nodeAt rows id)).2.2)) 65537 := by
  have hl := pcs_lt hw id h0 h1
  have hb : bare rows id = joinT (pcs rows (nodeAt rows id)).1.data.toList (((pcs rows (nodeAt rows id)).2.1.zip (pcs rows (nodeAt rows id)).2.2).map fun x => tx rows x.1 x.2) := by
    rw [bare, tx_eq hw id (-1) h0 h1]
    have := lvl_nonneg rows id
    have h : decide (lvl rows id < -1) = false := by simp; omega
    rw [h]
    rfl
  rw [wd, hb, joinT_len]
  have hz : ∀ x ∈ (pcs rows (nodeAt rows id)).2.1.zip (pcs rows (nodeAt rows id)).2.2, 0 ≤ x.1 ∧ x.1 < id := fun x hx => hl x.1 (List.of_mem_zip hx).1
  have hsz : (pcs rows (nodeAt rows id)).1.data.toList.length = (pcs rows (nodeAt rows id)).1.size := rfl
  rw [hsz]
  generalize (pcs rows (nodeAt rows id)).2.1.zip (pcs rows (nodeAt rows id)).2.2 = l at *
  generalize (pcs rows (nodeAt rows id)).1.size = s
  have hx : ∀ x ∈ l, (tx rows x.1 x.2).length = (bare rows x.1).length + rd2 rows x.1 x.2 := fun x hx => by
    have := hz x hx
    rw [tx_bare hw x.1 x.2 (by omega) (by omega), round_len]
    simp [rd2]
  clear hb hl hz
  unfold wsum
  revert s
  induction l with
  | nil => intro s; rfl
  | cons x xs ih =>
    intro s
    have h1 := hx x (by simp)
    have ih' := ih (fun y hy => hx y (by simp [hy]))
    simp only [List.map_cons, List.sum_cons, h1, wd]
    have e1 := ih' (s + ((bare rows x.1).length + rd2 rows x.1 x.2))
    have e2 := ih' (s + (min (bare rows x.1).length 65537 + rd2 rows x.1 x.2))
    simp only [wd] at e1 e2
    omega
theorem wd_le (rows : List Nd) (id : Int) : wd rows id ≤ 65537 := Nat.min_le_right _ _
/-- What Print answers. -/
def printR (rows : List Nd) (id : Int) : List UInt8 × Int :=
  if hasB rows.length id then (if 65536 < wd rows id then ([], 11) else (tx rows id 0, 0)) else ([], 31)
theorem tx_zero {rows : List Nd} (hw : wfR rows) (id : Int) (h0 : 0 ≤ id) (h1 : id < rows.length) : tx rows id 0 = bare rows id := by
  rw [tx_bare hw id 0 h0 h1]
  have := lvl_nonneg rows id
  have h : decide (lvl rows id < 0) = false := by simp; omega
  rw [h]
  rfl
end Go.Proofs.YtglnmkdlcbkpeaaGreatDoor
/- syntax: level, bot, pieces. -/
set_option linter.unusedVariables false
set_option linter.unusedSimpArgs false
namespace Go.Proofs.YtglnmkdlcbkpeaaGreatDoor
open Go.RowKit

theorem nd_cells {w : World} {g : Nat} {d : Nd} (h : w.heap[g]? = some (.cells #[.int .i64 d.k, .string d.s, .int .i64 d.l, .int .i64 d.r] 54 (0, 0))) :
    w.cell? ⟨g, 0, none⟩ = some (.int .i64 d.k) ∧ w.cell? ⟨g, 1, none⟩ = some (.string d.s) ∧ w.cell? ⟨g, 2, none⟩ = some (.int .i64 d.l) ∧ w.cell? ⟨g, 3, none⟩ = some (.int .i64 d.r) :=
  ⟨(blk_cell h 0).trans rfl, (blk_cell h 1).trans rfl, (blk_cell h 2).trans rfl, (blk_cell h 3).trans rfl⟩

theorem below_alloc2 {w w1 : World} (h : Below w.heap.size w w1) (o : Obj) : Below w.heap.size w (w1.alloc o) := h.trans (((Below.refl _ _).alloc (Nat.le_refl _) o).mono h.size)
theorem below_tail2 {w w1 : World} {o : Obj} (h : Below w.heap.size w w1) : Below w.heap.size w (w1.alloc o) := below_alloc2 h o

set_option maxHeartbeats 1000000 in
theorem bot_tab (w : World) (p : Nat) (rows : List Nd) (F : Nat → Prop) (id : Int) (hT : Tab w p rows F) (hl : rows.length ≤ 1024) :
    Calls Tryz.prog 57 #[.pointer (some ⟨p, 0, none⟩), .int .i64 id] w fun e w' => e = .returned (.bool (isBot rows id)) ∧ Below w.heap.size w w' := by
  have HT := Lib.hid hT
  clear hT
  have hv : Hid (isBot rows id = decide ((nodeAt rows id).k = 2)) := Lib.hid rfl
  generalize isBot rows id = v at *
  go_enter Tryz.func57, Tryz.ntmps57
  go_wp2_with fail
  refine (node_tab w p rows F id HT.out hl).mono ?_
  rintro e w1 ⟨rfl, hb⟩
  have HB := Lib.hid hb
  have hs := hb.size
  clear hb
  generalize nodeAt rows id = d at *
  obtain ⟨k, s, l, r⟩ := d
  simp only [Nd.val] at *
  go_wp2_with fail
  go_ret
  refine ⟨ret_bool ?_, below_tail2 HB.out⟩
  rw [hv.out]
  by_cases h : k = 2 <;> simp [h]

set_option maxHeartbeats 1000000 in
theorem level_tab (w : World) (p : Nat) (rows : List Nd) (F : Nat → Prop) (id : Int) (hT : Tab w p rows F) (hl : rows.length ≤ 1024) :
    Calls Tryz.prog 41 #[.pointer (some ⟨p, 0, none⟩), .int .i64 id] w fun e w' => e = .returned (.int .i64 (lvl rows id)) ∧ Below w.heap.size w w' := by
  have HT := Lib.hid hT
  clear hT
  have hv : Hid (lvl rows id = if (nodeAt rows id).k = 3 then 2 else if (nodeAt rows id).k = 4 then 1 else if (nodeAt rows id).k = 5 then (if isBot rows (nodeAt rows id).r then 3 else 0) else 3) := Lib.hid rfl
  generalize lvl rows id = v at *
  go_enter Tryz.func41, Tryz.ntmps41
  go_wp2_with fail
  refine (node_tab w p rows F id HT.out hl).mono ?_
  rintro e w1 ⟨rfl, hb⟩
  have HB := Lib.hid hb
  have hs := hb.size
  clear hb
  generalize nodeAt rows id = d at *
  obtain ⟨k, s, l, r⟩ := d
  simp only [Nd.val] at *
  by_cases h3 : k = 3
  · have Hv := Lib.hid (hv.out.trans (by simp [h3] : _ = (2 : Int)))
    subst h3
    clear hv
    go_wp2_with fail
    go_ret
    exact ⟨ret_int Hv.out.symm, below_tail2 HB.out⟩
  · have h3' : (k == 3) = false := beq_eq_false_iff_ne.2 h3
    by_cases h4 : k = 4
    · have Hv := Lib.hid (hv.out.trans (by simp [h4] : _ = (1 : Int)))
      subst h4
      clear hv h3 h3'
      go_wp2_with fail
      go_ret
      exact ⟨ret_int Hv.out.symm, below_tail2 HB.out⟩
    · have h4' : (k == 4) = false := beq_eq_false_iff_ne.2 h4
      by_cases h5 : k = 5
      · subst h5
        have hv2 := Lib.hid (hv.out.trans (by simp : _ = (if isBot rows r then (3 : Int) else 0)))
        clear hv h3 h4 h3' h4'
        go_wp2_with fail
        refine (bot_tab _ p rows F r (HT.out.below (below_alloc2 HB.out _)) hl).mono ?_
        rintro e w2 ⟨rfl, hb2⟩
        have HB2 := Lib.hid ((below_alloc2 HB.out _).trans (hb2.mono (by simp; omega)))
        clear hb2
        cases hbt : isBot rows r with
        | true =>
          have Hv := Lib.hid (hv2.out.trans (by rw [hbt]; rfl : _ = (3 : Int)))
          clear hv2 hbt
          go_wp2_with fail
          go_ret
          exact ⟨ret_int Hv.out.symm, HB2.out⟩
        | false =>
          have Hv := Lib.hid (hv2.out.trans (by rw [hbt]; rfl : _ = (0 : Int)))
          clear hv2 hbt
          go_wp2_with fail
          go_ret
          exact ⟨ret_int Hv.out.symm, HB2.out⟩
      · have h5' : (k == 5) = false := beq_eq_false_iff_ne.2 h5
        have Hv := Lib.hid (hv.out.trans (by simp [h3, h4, h5] : _ = (3 : Int)))
        clear hv h3 h4 h5
        go_wp2_with fail
        go_ret
        exact ⟨ret_int Hv.out.symm, below_tail2 HB.out⟩

/-- A slice of whole numbers that is read. -/
def SlI (w : World) (a : Option Addr) (l : List Int) : Prop := 0 < l.length → ∃ b, a = some ⟨b, 0, none⟩ ∧ w.heap[b]? = some (.cells ((l.map (Value.int .i64)).toArray) 3 (0, 0))
theorem SlI.nil (w : World) (a : Option Addr) : SlI w a [] := fun h => absurd h (by decide)
theorem SlI.below {w w1 : World} {a : Option Addr} {l : List Int} (h : SlI w a l) (hb : Below w.heap.size w w1) : SlI w1 a l := fun hn => by
  obtain ⟨b, e, h1⟩ := h hn
  exact ⟨b, e, blk_below' h1 hb⟩
theorem SlI.at_ {w : World} {a : Option Addr} {l : List Int} (h : SlI w a l) (i : Nat) (hi : i < l.length) : ∃ b, a = some ⟨b, 0, none⟩ ∧ b < w.heap.size ∧ w.cell? ⟨b, i, none⟩ = some (.int .i64 l[i]) := by
  obtain ⟨b, e, h1⟩ := h (by omega)
  refine ⟨b, e, blk_lt h1, ?_⟩
  rw [blk_cell h1]
  simp [hi]
def PcsPost (w : World) (x : ByteArray × List Int × List Int) (e : Ending) (w' : World) : Prop :=
  ∃ a c b m, e = .returned (.tuple #[.string x.1, .slice a x.2.1.length c, .slice b x.2.2.length m]) ∧ SlI w' a x.2.1 ∧ SlI w' b x.2.2 ∧ Below w.heap.size w w'

theorem slI_pair (w : World) (n : Nat) (hn : w.heap.size = n) (xs ys : List Int) :
    SlI ((w.alloc (.cells (xs.map (Value.int .i64)).toArray 3)).alloc (.cells (ys.map (Value.int .i64)).toArray 3)) (some ⟨n, 0, none⟩) xs ∧
    SlI ((w.alloc (.cells (xs.map (Value.int .i64)).toArray 3)).alloc (.cells (ys.map (Value.int .i64)).toArray 3)) (some ⟨n + 1, 0, none⟩) ys := by
  subst hn
  have e2 : (w.alloc (.cells (xs.map (Value.int .i64)).toArray 3)).heap.size = w.heap.size + 1 := by simp
  refine ⟨fun _ => ⟨_, rfl, ?_⟩, fun _ => ⟨_, rfl, ?_⟩⟩
  · exact blk_alloc (blk_new _ _) _
  · rw [← e2]; exact blk_new _ _
theorem belowT {w w1 : World} (h : Below w.heap.size w w1) (b c : Obj) : Below w.heap.size w ((w1.alloc b).alloc c).drew := (below_alloc2 (below_alloc2 h b) c).drew
theorem below3 (w : World) (a b c : Obj) : Below w.heap.size w (((w.alloc a).alloc b).alloc c).drew := ((((Below.refl _ _).alloc (Nat.le_refl _) a).alloc (by simp) b).alloc (by simp; omega) c).drew
theorem SlI.drew {w : World} {a : Option Addr} {l : List Int} (h : SlI w a l) : SlI w.drew a l := h

set_option maxRecDepth 100000 in
set_option maxHeartbeats 4000000 in
theorem pieces_tab (w : World) (p : Nat) (rows : List Nd) (F : Nat → Prop) (d : Nd) (hT : Tab w p rows F) (hl : rows.length ≤ 1024) :
    Calls Tryz.prog 40 #[.pointer (some ⟨p, 0, none⟩), d.val] w (PcsPost w (pcs rows d)) := by
  have HT := Lib.hid hT
  clear hT
  have hv : Hid (pcs rows d = if d.k = 3 then (tAnd, [d.l, d.r], [2, 3]) else if d.k = 4 then (tOr, [d.l, d.r], [1, 2]) else if d.k = 5 then
    (if isBot rows d.r then (if isBot rows d.l then (sTrue, [], []) else (sNot, [d.l], [3])) else (tImp, [d.l, d.r], [1, 0]))
  else if d.k = 2 then (sFalse, [], []) else (d.s, [], [])) := Lib.hid rfl
  generalize pcs rows d = v at *
  obtain ⟨k, s, l, r⟩ := d
  simp only [Nd.val] at *
  go_enter Tryz.func40, Tryz.ntmps40
  by_cases h3 : k = 3
  · have Hv := Lib.hid (hv.out.trans (by simp [h3] : _ = ((tAnd, [l, r], [2, 3]) : ByteArray × List Int × List Int)))
    subst h3
    clear hv
    go_wp2_with fail
    go_region
    all_goals
      go_wp2_with fail
      go_ret3
      rw [Hv.out]
      first
        | exact ⟨_, _, _, _, rfl, (slI_pair (w.alloc _) _ (by simp) [l, r] [2, 3]).1.drew, (slI_pair (w.alloc _) _ (by simp) [l, r] [2, 3]).2.drew, below3 w _ _ _⟩
        | exact ⟨_, _, _, _, rfl, (slI_pair (w.alloc _) _ (by simp) [2, 3] [l, r]).2.drew, (slI_pair (w.alloc _) _ (by simp) [2, 3] [l, r]).1.drew, below3 w _ _ _⟩
  · have h3' : (k == 3) = false := beq_eq_false_iff_ne.2 h3
    by_cases h4 : k = 4
    · have Hv := Lib.hid (hv.out.trans (by simp [h4] : _ = ((tOr, [l, r], [1, 2]) : ByteArray × List Int × List Int)))
      subst h4
      clear hv h3 h3'
      go_wp2_with fail
      go_region
      all_goals
        go_wp2_with fail
        go_ret3
        rw [Hv.out]
        first
          | exact ⟨_, _, _, _, rfl, (slI_pair (w.alloc _) _ (by simp) [l, r] [1, 2]).1.drew, (slI_pair (w.alloc _) _ (by simp) [l, r] [1, 2]).2.drew, below3 w _ _ _⟩
          | exact ⟨_, _, _, _, rfl, (slI_pair (w.alloc _) _ (by simp) [1, 2] [l, r]).2.drew, (slI_pair (w.alloc _) _ (by simp) [1, 2] [l, r]).1.drew, below3 w _ _ _⟩
    · have h4' : (k == 4) = false := beq_eq_false_iff_ne.2 h4
      by_cases h5 : k = 5
      · subst h5
        have hv2 := Lib.hid (hv.out.trans (by simp : _ = (if isBot rows r then (if isBot rows l then ((sTrue, [], []) : ByteArray × List Int × List Int) else (sNot, [l], [3])) else (tImp, [l, r], [1, 0]))))
        clear hv h3 h4 h3' h4'
        have hB1 : Below w.heap.size w (w.alloc (.cells #[.int .i64 5, .string s, .int .i64 l, .int .i64 r] 54)) := (Below.refl _ _).alloc (Nat.le_refl _) _
        have HB1 := Lib.hid hB1
        have HX := Lib.hid (blk_new w (.cells #[.int .i64 5, .string s, .int .i64 l, .int .i64 r] 54))
        clear hB1
        go_wp2_with fail
        refine (bot_tab _ p rows F l (HT.out.below HB1.out) hl).mono ?_
        rintro e w2 ⟨rfl, hb2⟩
        have HB2 := Lib.hid (HB1.out.trans (hb2.mono HB1.out.size))
        have HX2 := Lib.hid (blk_below' HX.out hb2)
        obtain ⟨x0, x1, x2, x3⟩ := nd_cells (d := ⟨5, s, l, r⟩) HX2.out
        clear hb2
        cases hbl : isBot rows l with
        | true =>
          have Hbl := Lib.hid hbl
          clear hbl
          go_wp2_with fail
          refine (bot_tab _ p rows F r (HT.out.below HB2.out) hl).mono ?_
          rintro e w3 ⟨rfl, hb3⟩
          have HB3 := Lib.hid (HB2.out.trans (hb3.mono HB2.out.size))
          have HX3 := Lib.hid (blk_below' HX2.out hb3)
          clear hb3 x0 x1 x2 x3
          cases hbr : isBot rows r with
          | true =>
            have Hv := Lib.hid (hv2.out.trans (by rw [hbr, Hbl.out]; rfl : _ = ((sTrue, [], []) : ByteArray × List Int × List Int)))
            clear hv2 hbr
            go_wp2_with fail
            go_ret3
            rw [Hv.out]
            exact ⟨none, 0, none, 0, rfl, SlI.nil _ _, SlI.nil _ _, HB3.out⟩
          | false =>
            have Hv := Lib.hid (hv2.out.trans (by rw [hbr]; rfl : _ = ((tImp, [l, r], [1, 0]) : ByteArray × List Int × List Int)))
            have Hbr := Lib.hid hbr
            obtain ⟨x0, x1, x2, x3⟩ := nd_cells (d := ⟨5, s, l, r⟩) HX3.out
            clear hv2 hbr
            go_wp2_with fail
            refine (bot_tab _ p rows F r (HT.out.below HB3.out) hl).mono ?_
            rintro e w4 ⟨rfl, hb4⟩
            rw [Hbr.out]
            have HB4 := Lib.hid (HB3.out.trans (hb4.mono HB3.out.size))
            have HX4 := Lib.hid (blk_below' HX3.out hb4)
            clear hb4 x0 x1 x2 x3
            obtain ⟨x0, x1, x2, x3⟩ := nd_cells (d := ⟨5, s, l, r⟩) HX4.out; have hlt4 := blk_lt HX4.out
            go_wp2_with fail
            go_region
            all_goals
              go_wp2_with fail
              go_ret3
              rw [Hv.out]
              first
                | exact ⟨_, _, _, _, rfl, (slI_pair w4 _ rfl [l, r] [1, 0]).1.drew, (slI_pair w4 _ rfl [l, r] [1, 0]).2.drew, belowT HB4.out _ _⟩
                | exact ⟨_, _, _, _, rfl, (slI_pair w4 _ rfl [1, 0] [l, r]).2.drew, (slI_pair w4 _ rfl [1, 0] [l, r]).1.drew, belowT HB4.out _ _⟩
        | false =>
          have Hbl := Lib.hid hbl
          clear hbl
          go_wp2_with fail
          refine (bot_tab _ p rows F r (HT.out.below HB2.out) hl).mono ?_
          rintro e w4 ⟨rfl, hb4⟩
          have HB4 := Lib.hid (HB2.out.trans (hb4.mono HB2.out.size))
          have HX4 := Lib.hid (blk_below' HX2.out hb4)
          clear hb4 x0 x1 x2 x3
          obtain ⟨x0, x1, x2, x3⟩ := nd_cells (d := ⟨5, s, l, r⟩) HX4.out; have hlt4 := blk_lt HX4.out
          cases hbr : isBot rows r with
          | true =>
            have Hv := Lib.hid (hv2.out.trans (by rw [hbr, Hbl.out]; rfl : _ = ((sNot, [l], [3]) : ByteArray × List Int × List Int)))
            clear hv2 hbr
            go_wp2_with fail
            go_region
            all_goals
              go_wp2_with fail
              go_ret3
              rw [Hv.out]
              first
                | exact ⟨_, _, _, _, rfl, (slI_pair w4 _ rfl [l] [3]).1.drew, (slI_pair w4 _ rfl [l] [3]).2.drew, belowT HB4.out _ _⟩
                | exact ⟨_, _, _, _, rfl, (slI_pair w4 _ rfl [3] [l]).2.drew, (slI_pair w4 _ rfl [3] [l]).1.drew, belowT HB4.out _ _⟩
          | false =>
            have Hv := Lib.hid (hv2.out.trans (by rw [hbr]; rfl : _ = ((tImp, [l, r], [1, 0]) : ByteArray × List Int × List Int)))
            clear hv2 hbr
            go_wp2_with fail
            go_region
            all_goals
              go_wp2_with fail
              go_ret3
              rw [Hv.out]
              first
                | exact ⟨_, _, _, _, rfl, (slI_pair w4 _ rfl [l, r] [1, 0]).1.drew, (slI_pair w4 _ rfl [l, r] [1, 0]).2.drew, belowT HB4.out _ _⟩
                | exact ⟨_, _, _, _, rfl, (slI_pair w4 _ rfl [1, 0] [l, r]).2.drew, (slI_pair w4 _ rfl [1, 0] [l, r]).1.drew, belowT HB4.out _ _⟩
      · have h5' : (k == 5) = false := beq_eq_false_iff_ne.2 h5
        by_cases h2 : k = 2
        · subst h2
          have Hv := Lib.hid (hv.out.trans (by simp : _ = ((sFalse, [], []) : ByteArray × List Int × List Int)))
          clear hv h3 h4 h5 h3' h4' h5'
          go_wp2_with fail
          go_ret3
          rw [Hv.out]
          exact ⟨none, 0, none, 0, rfl, SlI.nil _ _, SlI.nil _ _, (Below.refl _ _).alloc (Nat.le_refl _) _⟩
        · have h2' : (k == 2) = false := beq_eq_false_iff_ne.2 h2
          have Hv := Lib.hid (hv.out.trans (by simp [h3, h4, h5, h2] : _ = ((s, [], []) : ByteArray × List Int × List Int)))
          clear hv h3 h4 h5 h2
          go_wp2_with fail
          go_ret3
          rw [Hv.out]
          exact ⟨none, 0, none, 0, rfl, SlI.nil _ _, SlI.nil _ _, (Below.refl _ _).alloc (Nat.le_refl _) _⟩
end Go.Proofs.YtglnmkdlcbkpeaaGreatDoor
/- strings.Builder: copyCheck, WriteByte, WriteString. -/
set_option linter.unusedVariables false
set_option linter.unusedSimpArgs false
namespace Go.Proofs.YtglnmkdlcbkpeaaGreatDoor
open Go.RowKit

/-- What a builder's writing may turn: its own block and rows of bytes, from B on. -/
def S8 (B : Nat) (w : World) (b k : Nat) : Prop := B ≤ k ∧ (k = b ∨ ∃ cs fr, w.heap[k]? = some (.cells cs 5 fr))
theorem fr8_trans {B b : Nat} {w w1 w2 : World} (h1 : Fr (S8 B w b) w w1) (h2 : Fr (S8 B w1 b) w1 w2) : Fr (S8 B w b) w w2 :=
  h1.trans h2 (fun i hi hs => by
    by_cases hS : S8 B w b i
    · exact hS
    · have := h1.block i hi hS
      obtain ⟨hB, hs⟩ := hs
      rcases hs with e | ⟨cs, fr, h⟩
      · exact absurd ⟨hB, .inl e⟩ hS
      · exact absurd ⟨hB, .inr ⟨cs, fr, this ▸ h⟩⟩ hS)
theorem fr8_below {B b : Nat} {w w1 : World} (h : Fr (S8 B w b) w w1) (hB : B ≤ w.heap.size) : Below B w w1 := ⟨h.os, h.tape, h.output, h.size, fun k hk => h.block k (by omega) (fun hs => by have := hs.1; omega)⟩
abbrev Bd (B b : Nat) (l : List UInt8) (w : World) : Prop := Lib.IsBuilder 62 5 B b (Lib.byteCells l) w
theorem Bd.blk {B b : Nat} {l : List UInt8} {w : World} (h : Bd B b l w) : B ≤ b ∧ ∃ p v, w.heap[b]? = some (.cells #[p, v] 62 (0, 0)) := by
  rcases h with h | h
  · obtain ⟨h1, v, h2, _⟩ := h
    exact ⟨h1, _, v, h2⟩
  · obtain ⟨h1, v, h2, _⟩ := h
    exact ⟨h1, _, v, h2⟩
theorem Bd.far {B b k : Nat} {l : List UInt8} {w : World} (h : Bd B b l w) {t : TypeId} {cs : Array Value} {fr : Nat × Nat} (hk : w.heap[k]? = some (.cells cs t fr)) (h1 : t ≠ 62) (h2 : t ≠ 5) : ¬ S8 B w b k := by
  rintro ⟨_, e | ⟨cs', fr', e⟩⟩
  · obtain ⟨_, p, v, hb⟩ := h.blk
    rw [← e, hk] at hb
    simp only [Option.some.injEq, Obj.cells.injEq] at hb
    exact h1 hb.2.1
  · rw [hk] at e
    simp only [Option.some.injEq, Obj.cells.injEq] at e
    exact h2 e.2.1

theorem size_builder : (Tryz.prog.info? 62).map (·.size) = some 2 := by kernel_rfl
theorem lies_builder : liesAt Tryz.prog Tryz.prog.depth 62 (2 / Tryz.prog.cellsOf 62) 0 62 1 = true := by kernel_rfl
theorem info_byte : (Tryz.prog.info? 5).map (fun i => (i.zero, i.size, i.bytes)) = some (some (.int .u8 0), 1, 1) := by kernel_rfl

set_option maxHeartbeats 1000000 in
set_option maxRecDepth 100000 in
theorem check_used (b : Nat) (w : World) (h0 : w.cell? ⟨b, 0, none⟩ = some (.pointer (some ⟨b, 0, none⟩))) :
    Calls Tryz.prog 58 #[.pointer (some ⟨b, 0, none⟩)] w fun e w' => e = .returned (.tuple #[]) ∧ w = w' := by
  obtain ⟨j, hj, _⟩ := Option.map_eq_some_iff.1 size_builder
  go_enter Tryz.func58, Tryz.ntmps58
  go_wp2
  rw [Lib.run_neq_ptr_same w _ Tryz.underlying59 hj]
  go_wp2
  go_end0
  exact ⟨rfl, rfl⟩
set_option maxHeartbeats 1000000 in
set_option maxRecDepth 100000 in
theorem check_fresh (b : Nat) (w : World) (h0 : w.cell? ⟨b, 0, none⟩ = some (.pointer none)) (hsh : w.shape? b = some (62, 2)) (hfz : w.frozen? ⟨b, 0, none⟩ = false) :
    Calls Tryz.prog 58 #[.pointer (some ⟨b, 0, none⟩)] w fun e w' => e = .returned (.tuple #[]) ∧ w.setCell ⟨b, 0, none⟩ (.pointer (some ⟨b, 0, none⟩)) = w' := by
  obtain ⟨j, hj, hjs⟩ := Option.map_eq_some_iff.1 size_builder
  go_enter Tryz.func58, Tryz.ntmps58
  go_wp2
  rw [Lib.run_to_unsafe w ⟨b, 0, none⟩ Tryz.underlying59 Tryz.underlying127 hj (by rw [hjs]; decide) hsh (Nat.zero_lt_succ 1)]
  simp only [Result.andThen]
  rw [Oper.upon_value]
  go_wp2
  rw [run_callFunc_extern Tryz.func70 (by kernel_rfl) (by kernel_rfl) (by kernel_rfl) (e := Extern.AbiNoEscape.same) (by kernel_rfl)]
  rw [Lib.run_noEscape]
  simp only [Result.andThen]
  rw [Oper.upon_value]
  go_wp2
  rw [Lib.run_from_unsafe w ⟨b, 0, none⟩ Tryz.underlying127 Tryz.underlying59 hj hsh lies_builder]
  simp only [Result.andThen]
  rw [Oper.upon_value]
  go_wp2
  go_end0
  exact ⟨rfl, rfl⟩
theorem check_any (B b : Nat) (l : List UInt8) (w : World) (h : Bd B b l w) :
    Calls Tryz.prog 58 #[.pointer (some ⟨b, 0, none⟩)] w fun e w' => e = .returned (.tuple #[]) ∧ Lib.BuilderAt 62 5 B b (.pointer (some ⟨b, 0, none⟩)) (Lib.byteCells l) w' ∧ Fr (S8 B w b) w w' := by
  rcases h with h | h
  · refine (check_fresh b w h.cell0 h.shape h.frozen0).mono ?_
    rintro e w' ⟨rfl, rfl⟩
    exact ⟨rfl, h.used _, (Fr.refl _ w).setCell _ _ (fun _ => ⟨h.1, .inl rfl⟩)⟩
  · refine (check_used b w h.cell0).mono ?_
    rintro e w' ⟨rfl, rfl⟩
    exact ⟨rfl, h, Fr.refl _ _⟩

theorem fr_grown8 {B b : Nat} {w w1 : World} {v : Value} {n : Nat} {xs : List Value} (hg : w.grownBy w1 v.ownBlock) (ho : w.ownsRow B 5 1 v n xs) : Fr (S8 B w b) w w1 :=
  (Fr.refl _ w).grown hg (fun k hk _ => ⟨(ho.lt k hk).1, .inr (by obtain ⟨cs, h⟩ := own_typed ho k hk; exact ⟨cs, _, h⟩)⟩)

def WrB (B b : Nat) (w : World) (l : List UInt8) (r : Value) (e : Ending) (w' : World) : Prop := e = .returned r ∧ Bd B b l w' ∧ Fr (S8 B w b) w w'

set_option maxHeartbeats 2000000 in
set_option maxRecDepth 100000 in
theorem wbyte_any (B b : Nat) (l : List UInt8) (c : UInt8) (w : World) (h : Bd B b l w) (hlen : l.length + 1 ≤ 140737488355328) (hBw : B ≤ w.heap.size) :
    Calls Tryz.prog 42 #[.pointer (some ⟨b, 0, none⟩), .int .u8 c.toNat] w (WrB B b w (l ++ [c]) .nilIface) := by
  obtain ⟨i0, hi, hz0, hz1, hz2⟩ := info_parts info_byte
  have H := Lib.hid h
  have hbl : (Lib.byteCells l).length = l.length := by simp [Lib.byteCells]
  clear h
  go_enter Tryz.func42, Tryz.ntmps42
  go_wp2_with (go_at_call 58; refine (check_any B b l _ H.out).mono ?_)
  rintro e w1 ⟨rfl, h1, hf1⟩
  obtain ⟨hB, v, hbk, hown, hne⟩ := h1
  rw [hbl] at hown
  have c0 : w1.cell? ⟨b, 0, none⟩ = some (.pointer (some ⟨b, 0, none⟩)) := by rw [Lib.cell_of_heap hbk]; rfl
  have c1 : w1.cell? ⟨b, 1, none⟩ = some v := by rw [Lib.cell_of_heap hbk]; rfl
  go_wp2_with (at_builtin; refine wpList_append_own _ rfl _ _ 60 rfl B 5 i0 (.int .u8 0) 1 1 Tryz.underlying60 hi hz0 hz1 hz2 rfl (by decide) _ _ _ rfl (hown.alloc _) ⟨w1.heap.size, 0, none⟩ 1 1 [.int .u8 c.toNat] rfl rfl ?c1 ?c2 ?c3 ?c4 ?c5 ?_)
  case c1 =>
    intro j u hj
    match j, hj with
    | 0, hj => simp at hj; subst hj; simp [Addr.add]
  case c2 => intro u hu; simp at hu; subst hu; rfl
  case c3 => unfold maxLen; omega
  case c4 => omega
  case c5 => have := hf1.size; simp; omega
  intro v' w2 hown' hgrow _
  have hlt : b < w1.heap.size := blk_lt hbk
  have hb2 : w2.heap[b]? = some (.cells #[.pointer (some ⟨b, 0, none⟩), v] 62 (0, 0)) := by
    rw [hgrow.block b (by simp; omega) (fun e => hne e.symm), Lib.alloc_old w1 _ b hlt]
    exact hbk
  have d0 : w2.cell? ⟨b, 0, none⟩ = some (.pointer (some ⟨b, 0, none⟩)) := by rw [Lib.cell_of_heap hb2]; rfl
  have d1 : w2.cell? ⟨b, 1, none⟩ = some v := by rw [Lib.cell_of_heap hb2]; rfl
  have f1 : w2.frozen? ⟨b, 1, none⟩ = false := Lib.frozen_of_heap hb2 1
  obtain ⟨g, cap, rfl⟩ : ∃ g cap, v' = .slice (some ⟨g, 0, none⟩) (l.length + 1) cap := by
    rcases hown'.2 with ⟨_, h0⟩ | ⟨g, cap, cur, hv, _⟩
    · omega
    · exact ⟨g, cap, hv⟩
  have hfin : Hid (WrB B b w (l ++ [c]) .nilIface (.returned .nilIface) (w2.setCell ⟨b, 1, none⟩ (.slice (some ⟨g, 0, none⟩) (l.length + 1) cap))) := by
    refine ⟨rfl, .inr ?_, ?_⟩
    · have hbc : Lib.byteCells l ++ [Value.int .u8 c.toNat] = Lib.byteCells (l ++ [c]) := by simp [Lib.byteCells]
      have hl2 : (Lib.byteCells (l ++ [c])).length = l.length + 1 := by simp [Lib.byteCells]
      refine Lib.BuilderAt.put (T := 62) (e := 5) hB hb2 (bs' := Lib.byteCells (l ++ [c])) ?_ (by decide)
      rw [hl2, ← hbc]
      exact hown'
    · have hg1 : Fr (S8 B w1 b) w1 w2 := ((Fr.refl _ w1).alloc _).grown hgrow (fun k hk _ => ⟨(hown.lt k hk).1, .inr (by obtain ⟨cs, h⟩ := own_typed hown k hk; exact ⟨cs, _, h⟩)⟩)
      exact fr8_trans hf1 (hg1.setCell _ _ (fun _ => ⟨hB, .inl rfl⟩))
  clear hown hown' hgrow hf1 H hbl hbk hb2 c0 c1
  go_wp2
  go_ret
  exact hfin.out

set_option maxHeartbeats 2000000 in
set_option maxRecDepth 100000 in
theorem wstr_any (B b : Nat) (l : List UInt8) (s : ByteArray) (w : World) (h : Bd B b l w) (hlen : l.length + s.size ≤ 140737488355328) (hBw : B ≤ w.heap.size) :
    Calls Tryz.prog 43 #[.pointer (some ⟨b, 0, none⟩), .string s] w (WrB B b w (l ++ s.data.toList) (.tuple #[.int .i64 s.size, .nilIface])) := by
  obtain ⟨i0, hi, hz0, hz1, hz2⟩ := info_parts info_byte
  have H := Lib.hid h
  have hbl : (Lib.byteCells l).length = l.length := by simp [Lib.byteCells]
  clear h
  go_enter Tryz.func43, Tryz.ntmps43
  go_wp2_with (go_at_call 58; refine (check_any B b l _ H.out).mono ?_)
  rintro e w1 ⟨rfl, h1, hf1⟩
  obtain ⟨hB, v, hbk, hown, hne⟩ := h1
  rw [hbl] at hown
  have c0 : w1.cell? ⟨b, 0, none⟩ = some (.pointer (some ⟨b, 0, none⟩)) := by rw [Lib.cell_of_heap hbk]; rfl
  have c1 : w1.cell? ⟨b, 1, none⟩ = some v := by rw [Lib.cell_of_heap hbk]; rfl
  go_wp2_with (at_builtin; refine Lib.wpList_append_own_string _ rfl _ _ 60 9 rfl B 5 i0 Tryz.underlying60 Tryz.underlying9 hi hz0 hz1 hz2 _ _ _ rfl hown s rfl ?c3 ?c4 ?c5 ?_)
  case c3 => unfold maxLen; omega
  case c4 => omega
  case c5 => have := hf1.size; omega
  intro v' w2 hown' hgrow _
  have hlt : b < w1.heap.size := blk_lt hbk
  have hb2 : w2.heap[b]? = some (.cells #[.pointer (some ⟨b, 0, none⟩), v] 62 (0, 0)) := by
    rw [hgrow.block b hlt (fun e => hne e.symm)]
    exact hbk
  have d0 : w2.cell? ⟨b, 0, none⟩ = some (.pointer (some ⟨b, 0, none⟩)) := by rw [Lib.cell_of_heap hb2]; rfl
  have d1 : w2.cell? ⟨b, 1, none⟩ = some v := by rw [Lib.cell_of_heap hb2]; rfl
  have f1 : w2.frozen? ⟨b, 1, none⟩ = false := Lib.frozen_of_heap hb2 1
  obtain ⟨ao, n', cap, rfl⟩ : ∃ ao n' cap, v' = .slice ao n' cap := by
    rcases hown'.2 with ⟨hv, _⟩ | ⟨g, cap, cur, hv, _⟩
    · exact ⟨_, _, _, hv⟩
    · exact ⟨_, _, _, hv⟩
  have hfin : Hid (WrB B b w (l ++ s.data.toList) (.tuple #[.int .i64 s.size, .nilIface]) (.returned (.tuple #[.int .i64 s.size, .nilIface])) (w2.setCell ⟨b, 1, none⟩ (.slice ao n' cap))) := by
    refine ⟨rfl, .inr ?_, ?_⟩
    · have hbc : Lib.byteCells l ++ Lib.strCells s = Lib.byteCells (l ++ s.data.toList) := by simp [Lib.byteCells, Lib.strCells]
      have hl2 : (Lib.byteCells (l ++ s.data.toList)).length = l.length + s.size := by
        rw [← hbc, List.length_append, Lib.strCells_length, hbl]
      refine Lib.BuilderAt.put (T := 62) (e := 5) hB hb2 (bs' := Lib.byteCells (l ++ s.data.toList)) ?_ (by decide)
      rw [hl2, ← hbc]
      exact hown'
    · exact fr8_trans hf1 ((fr_grown8 hgrow hown).setCell _ _ (fun _ => ⟨hB, .inl rfl⟩))
  clear hown hown' hgrow hf1 H hbl hbk hb2 c0 c1
  go_wp2
  go_ret2
  exact hfin.out
end Go.Proofs.YtglnmkdlcbkpeaaGreatDoor
