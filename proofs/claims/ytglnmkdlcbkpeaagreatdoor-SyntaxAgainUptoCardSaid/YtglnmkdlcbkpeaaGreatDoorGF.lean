/-
  The table of formulas of package formula in memory: what its leaf functions, Put, New, Len and Node answer, under the stated layout in memory.
-/
import Derived.Test.YtglnmkdlcbkpeaaGreatDoorProg
import Derived.WalkKit
import Derived.KernelRfl
import Derived.WalkSpells
import Derived.Lib.Hide
import Derived.Deep.Light
import Derived.Deep.DeepFit
import Derived.Deep.RegionHeld3
import Derived.Deep.RegionLaw
import Derived.Deep.AppendLies
import Derived.Deep.DeepCutAuto
import Derived.Deep.LoopGhost
import Derived.Deep.CutBlock
import Derived.BigQuiet
import Derived.Deep.QuietTactic
import Derived.StillTailTactics
import Derived.Deep.OwnRows
/- Base: nodes as values; a map whose keys are nodes: looked up, written, struck. -/
set_option linter.unusedVariables false
set_option linter.unusedSimpArgs false
namespace Go.Proofs.YtglnmkdlcbkpeaaGreatDoor
open Go.RowKit

theorem ret_bool {a b : Bool} (h : a = b) : Ending.returned (.bool a) = .returned (.bool b) := by rw [h]
theorem ret_int {k : IntKind} {a b : Int} (h : a = b) : Ending.returned (.int k a) = .returned (.int k b) := by rw [h]

structure Nd where
  k : Int
  s : ByteArray
  l : Int
  r : Int

theorem ba_ext {a b : ByteArray} (h : a.toList = b.toList) : a = b := by
  have h1 : (a == b) = true := by rw [beq_toListBytes, h]; simp
  obtain ⟨x⟩ := a
  obtain ⟨y⟩ := b
  have : (x == y) = true := h1
  rw [eq_of_beq this]
theorem toList_eq (a b : ByteArray) : (a.toList = b.toList) = (a = b) := propext ⟨ba_ext, fun h => by rw [h]⟩

theorem toList_nil (s : ByteArray) : (s.toList = []) = (s.size = 0) := by
  have h0 : (⟨#[]⟩ : ByteArray).toList = [] := by decide +kernel
  refine propext ⟨fun h => ?_, fun h => ?_⟩
  · rw [ba_ext (h.trans h0.symm)]; rfl
  · have : s = ⟨#[]⟩ := by
      obtain ⟨x⟩ := s
      have : x.size = 0 := h
      rw [Array.eq_empty_of_size_eq_zero this]
    rw [this]; exact h0

instance : DecidableEq Nd := fun a b =>
  if h : a.k = b.k ∧ a.s.toList = b.s.toList ∧ a.l = b.l ∧ a.r = b.r then
    .isTrue (by obtain ⟨k, s, l, r⟩ := a; obtain ⟨k', s', l', r'⟩ := b; obtain ⟨h1, h2, h3, h4⟩ := h; simp only at h1 h2 h3 h4; rw [h1, ba_ext h2, h3, h4])
  else .isFalse (fun e => h (by rw [e]; exact ⟨rfl, rfl, rfl, rfl⟩))

def Nd.cells (n : Nd) : List Value := [.int .i64 n.k, .string n.s, .int .i64 n.l, .int .i64 n.r]
def Nd.val (n : Nd) : Value := .agg #[.int .i64 n.k, .string n.s, .int .i64 n.l, .int .i64 n.r]

theorem eq_node (a b : Nd) (w : World) (d : Nat) : (Op.equalIn (d + 2) 54 a.val b.val).run Tryz.prog w = .ok (decide (a = b)) w := by
  obtain ⟨k, s, l, r⟩ := a
  obtain ⟨k', s', l', r'⟩ := b
  simp only [Nd.val]
  simp [go_sem, toList_eq]
  by_cases h1 : k = k' <;> simp [h1]
  by_cases h2 : s = s' <;> simp [h2]
  by_cases h3 : l = l' <;> simp [h3]
  by_cases h4 : r = r' <;> simp [h4]

theorem check_node' (a : Nd) (w : World) (b : Bool) (n : Nat) : (Instr.checkKey b (n + 2) 54 a.val).run Tryz.prog w = .ok () w := by
  simp only [Nd.val]
  unfold Instr.checkKey
  simp [go_sem]
  simp [Instr.checkKey, go_sem]
theorem check_node (a : Nd) (w : World) (b : Bool) : (Instr.checkKey b 10000 54 a.val).run Tryz.prog w = .ok () w := check_node' a w b 9998

/-- The entries of a table's map. -/
def Ents (es : List MapEntry) (xs : List (Nd × Int)) : Prop := es.map (fun e => (e.key, e.val)) = xs.map (fun x => (x.1.val, Value.int .i64 x.2))

/-- Where a node stands first. -/
def findAt (n : Nd) : List (Nd × Int) → Nat → Option (Nat × Int)
  | [], _ => none
  | x :: xs, i => if n = x.1 then some (i, x.2) else findAt n xs (i + 1)

theorem find_asks (n : Nd) (w : World) : ∀ (es : List MapEntry) (xs : List (Nd × Int)) (i : Nat), Ents es xs →
    (Instr.findAsking 54 n.val es i).run Tryz.prog w = .ok ((findAt n xs i).map fun x => (x.1, Value.int .i64 x.2)) w := by
  intro es
  induction es with
  | nil =>
    intro xs i h
    cases xs with
    | nil => simp [Instr.findAsking, findAt]
    | cons x xs => simp [Ents] at h
  | cons e es ih =>
    intro xs i h
    cases xs with
    | nil => simp [Ents] at h
    | cons x xs =>
      simp only [Ents, List.map_cons, List.cons.injEq, Prod.mk.injEq] at h
      obtain ⟨⟨hk, hv⟩, ht⟩ := h
      have hq : (Op.equal 54 n.val x.1.val).run Tryz.prog w = .ok (decide (n = x.1)) w := eq_node n x.1 w 9998
      by_cases hx : n = x.1
      · subst hx
        simp only [Instr.findAsking, findAt, hk, hv, Sem.run_bind, hq, Result.andThen_ok, decide_true, if_true, Sem.run_pure, Option.map_some]
      · simp [Instr.findAsking, findAt, hk, hq, hx, go_sem, ih xs (i + 1) ht]

theorem sameNow_struct (fs : Array Field) (a b : Value) : Instr.sameNow (.struct fs) a b = none := rfl
theorem find_key (n : Nd) (w : World) (es : List MapEntry) (xs : List (Nd × Int)) (h : Ents es xs) :
    (Instr.findKey 54 n.val es).run Tryz.prog w = .ok ((findAt n xs 0).map fun x => (x.1, Value.int .i64 x.2)) w := by
  have hu : Tryz.prog.underlying 54 = some (.struct (Tryz.prog.fieldsOf 54)) := by kernel_rfl
  cases es with
  | nil =>
    cases xs with
    | nil => simp [Instr.findKey, run_underlying hu, Instr.findNow, findAt]
    | cons x xs => simp [Ents] at h
  | cons e es =>
    simp only [Instr.findKey]
    simp [run_underlying hu, Instr.findNow, sameNow_struct]
    exact find_asks n w _ xs 0 h

theorem under_at : Tryz.prog.underlying 77 = some (.map 54 3) := by kernel_rfl

theorem run_getMap {w : World} {m : Nat} {es : Array MapEntry} {clock : Nat} (hm : w.heap[m]? = some (.map es clock)) {P : Program} : (getObj m).run P w = .ok (.map es clock) w := by
  simp [getObj, Sem.run, hm]

theorem look_node {w : World} {m : Nat} {es : Array MapEntry} {clock : Nat} {xs : List (Nd × Int)} (hm : w.heap[m]? = some (.map es clock)) (he : Ents es.toList xs) (n : Nd) :
    (Instr.lookup 77 (.map (some m)) n.val true).run Tryz.prog w = .ok (.tuple #[.int .i64 (((findAt n xs 0).map (·.2)).getD 0), .bool (findAt n xs 0).isSome]) w := by
  have hz : (zeroValue 3).run Tryz.prog w = .ok (.int .i64 0) w := by kernel_rfl
  have hf := find_key n w es.toList xs he
  simp [Instr.lookup, run_underlying under_at, run_getMap hm, check_node, hf]
  cases hx : findAt n xs 0 with
  | none => simp [hz]
  | some x => simp

/-- A block that is no row of cells is written. -/
def putBlk (w : World) (m : Nat) (o : Obj) : World := { w with heap := w.heap.setIfInBounds m o }
theorem run_setMap {w : World} {m : Nat} {es : Array MapEntry} {clock : Nat} (hm : w.heap[m]? = some (.map es clock)) (o : Obj) {P : Program} : (setObj m o).run P w = .ok () (putBlk w m o) := by
  simp [setObj, Sem.run, hm, putBlk]
theorem upd_node {w : World} {m : Nat} {es : Array MapEntry} {clock : Nat} {xs : List (Nd × Int)} (hm : w.heap[m]? = some (.map es clock)) (he : Ents es.toList xs) (n : Nd) (hn : findAt n xs 0 = none) (v : Value) :
    (Instr.mapUpdate 77 (.map (some m)) n.val v).run Tryz.prog w = .ok () (putBlk w m (.map (es.push { key := n.val, val := v, born := clock }) (clock + 1))) := by
  have hf := find_key n w es.toList xs he
  simp [Instr.mapUpdate, run_underlying under_at, run_getMap hm, check_node, hf, hn, run_setMap hm]
end Go.Proofs.YtglnmkdlcbkpeaaGreatDoor
/- formula: leaf functions. -/
set_option linter.unusedVariables false
set_option linter.unusedSimpArgs false
namespace Go.Proofs.YtglnmkdlcbkpeaaGreatDoor
open Go.RowKit

def resWords : List (List UInt8) := [[97, 98, 111, 114, 116], [99, 97, 115, 101], [102, 97, 108, 115, 101], [102, 115, 116], [102, 117, 110], [105, 110], [105, 110, 108], [105, 110, 114], [108, 101, 116], [111, 102], [115, 110, 100], [116, 114, 117, 101]]
def resB (s : ByteArray) : Bool := resWords.any (fun u => s.toList == u)

theorem reserved_any (s : ByteArray) (w : World) :
    Calls Tryz.prog 88 #[.string s] w fun e w' => e = .returned (.bool (resB s)) ∧ w = w' := by
  go_enter Tryz.func88, Tryz.ntmps88
  go_wp2
  all_goals first | (exfalso; simp_all; done) | skip
  all_goals go_ret
  all_goals (refine ⟨?_, rfl⟩; simp [resB, resWords, *])

theorem alive_some (p m : Nat) (w : World) (h0 : w.cell? ⟨p, 1, none⟩ = some (.map (some m))) :
    Calls Tryz.prog 27 #[.pointer (some ⟨p, 0, none⟩)] w fun e w' => e = .returned (.bool true) ∧ w = w' := by
  have q := fun (w : World) (r : Option Nat) => run_neq_map_nil w 77 54 3 r under_at
  go_enter Tryz.func27, Tryz.ntmps27
  go_wp2
  go_ret
  exact ⟨rfl, rfl⟩
theorem alive_nil (w : World) :
    Calls Tryz.prog 27 #[.pointer none] w fun e w' => e = .returned (.bool false) ∧ w = w' := by
  go_enter Tryz.func27, Tryz.ntmps27
  go_wp2
  go_ret
  exact ⟨rfl, rfl⟩
theorem alive_zero (p : Nat) (w : World) (h0 : w.cell? ⟨p, 1, none⟩ = some (.map none)) :
    Calls Tryz.prog 27 #[.pointer (some ⟨p, 0, none⟩)] w fun e w' => e = .returned (.bool false) ∧ w = w' := by
  have q := fun (w : World) (r : Option Nat) => run_neq_map_nil w 77 54 3 r under_at
  go_enter Tryz.func27, Tryz.ntmps27
  go_wp2
  go_ret
  exact ⟨rfl, rfl⟩

def hasB (n : Nat) (id : Int) : Bool := decide (0 ≤ id) && decide (id < n)
theorem has_any (p : Nat) (a : Option Addr) (n c : Nat) (id : Int) (w : World) (h0 : w.cell? ⟨p, 0, none⟩ = some (.slice a n c)) :
    Calls Tryz.prog 39 #[.pointer (some ⟨p, 0, none⟩), .int .i64 id] w fun e w' => e = .returned (.bool (hasB n id)) ∧ w = w' := by
  go_enter Tryz.func39, Tryz.ntmps39
  go_wp2
  all_goals go_ret
  all_goals exact ⟨by simp [hasB, *] <;> omega, rfl⟩

def goodAt (k : Nat) (c : Nat) : Prop := (97 ≤ c ||| 32 ∧ c ||| 32 ≤ 122) ∨ (k ≠ 0 ∧ (c = 95 ∨ c = 39 ∨ (48 ≤ c ∧ c ≤ 57)))
instance (k c : Nat) : Decidable (goodAt k c) := by unfold goodAt; infer_instance
theorem bits_or32 (c : UInt8) : Go.bits .or .u8 (c.toNat : Int) 32 = ((c.toNat ||| 32 : Nat) : Int) := by
  have : ∀ n : Fin 256, Go.bits .or .u8 ((n.val : Nat) : Int) 32 = ((n.val ||| 32 : Nat) : Int) := by decide +kernel
  exact this ⟨c.toNat, c.toNat_lt⟩
def wordLoop : Nat → List UInt8 → Bool
  | _, [] => true
  | i, c :: s => decide (goodAt i c.toNat) && wordLoop (i + 1) s
def wordB (s : ByteArray) : Bool := wordLoop 0 s.data.toList && decide (s.size ≠ 0) && decide (s.size ≤ 31) && !resB s
theorem wordLoop_at (s : ByteArray) (k : Nat) (h : k < s.size) : wordLoop k (s.data.toList.drop k) = (decide (goodAt k s[k].toNat) && wordLoop (k + 1) (s.data.toList.drop (k + 1))) := by
  rw [List.drop_eq_getElem_cons (by simpa using h), wordLoop]
  rfl

set_option maxHeartbeats 1000000 in
theorem word_any (s : ByteArray) (w : World) (hs : s.size ≤ 140737488355328) :
    Calls Tryz.prog 82 #[.string s] w fun e w' => e = .returned (.bool (wordB s)) ∧ w = w' := by
  have hb := bits_or32
  go_enter Tryz.func82, Tryz.ntmps82
  go_wp2_with fail
  go_loop [9] (fun i => ∃ k : Nat, k ≤ s.size ∧ i = .int .i64 k ∧ wordLoop 0 s.data.toList = wordLoop k (s.data.toList.drop k)) (fun i => s.size - (intOf i).toNat)
  case atStart => exact ⟨0, Nat.zero_le _, rfl, rfl⟩
  case round =>
    obtain ⟨k, hk, rfl, hw⟩ := hrel
    have Hw := Lib.hid hw
    clear hw
    by_cases hlt : k < s.size
    · have Hs := Lib.hid (Hw.out.trans (wordLoop_at s k hlt))
      clear Hw
      rcases Nat.eq_zero_or_pos k with hk0 | hpos
      · obtain rfl : 0 = k := hk0.symm
        clear hk0
        go_wp2_with fail
        all_goals first
          | (have hg : goodAt 0 s[0].toNat := by
               go_light
               try simp only [Bool.not_eq_true', Bool.not_eq_false', decide_eq_true_eq, decide_eq_false_iff_not, beq_iff_eq, bne_iff_ne, beq_eq_false_iff_ne, bne_eq_false_iff_eq, Ne] at *
               unfold goodAt
               omega
             exact ⟨⟨0 + 1, by omega, rfl, by rw [Hs.out, decide_eq_true hg, Bool.true_and]⟩, by simp [intOf]; omega⟩)
          | (have hg : ¬ goodAt 0 s[0].toNat := by
               go_light
               try simp only [Bool.not_eq_true', Bool.not_eq_false', decide_eq_true_eq, decide_eq_false_iff_not, beq_iff_eq, bne_iff_ne, beq_eq_false_iff_ne, bne_eq_false_iff_eq, Ne] at *
               unfold goodAt
               omega
             go_ret
             exact ⟨by rw [wordB, Hs.out, decide_eq_false hg]; rfl, rfl⟩)
          | (exfalso
             go_light
             try simp only [Bool.not_eq_true', Bool.not_eq_false', decide_eq_true_eq, decide_eq_false_iff_not, beq_iff_eq, bne_iff_ne, beq_eq_false_iff_ne, bne_eq_false_iff_eq, Ne] at *
             omega)
      · clear hb; have hb := bits_or32
        go_wp2_with fail
        all_goals first
          | (have hg : goodAt k s[k].toNat := by
               go_light
               try simp only [Bool.not_eq_true', Bool.not_eq_false', decide_eq_true_eq, decide_eq_false_iff_not, beq_iff_eq, bne_iff_ne, beq_eq_false_iff_ne, bne_eq_false_iff_eq, Ne] at *
               unfold goodAt
               omega
             exact ⟨⟨k + 1, by omega, by go_num, by rw [Hs.out, decide_eq_true hg, Bool.true_and]⟩, by simp [intOf]; omega⟩)
          | (have hg : ¬ goodAt k s[k].toNat := by
               go_light
               try simp only [Bool.not_eq_true', Bool.not_eq_false', decide_eq_true_eq, decide_eq_false_iff_not, beq_iff_eq, bne_iff_ne, beq_eq_false_iff_ne, bne_eq_false_iff_eq, Ne] at *
               unfold goodAt
               omega
             go_ret
             exact ⟨by rw [wordB, Hs.out, decide_eq_false hg]; rfl, rfl⟩)
          | (exfalso
             go_light
             try simp only [Bool.not_eq_true', Bool.not_eq_false', decide_eq_true_eq, decide_eq_false_iff_not, beq_iff_eq, bne_iff_ne, beq_eq_false_iff_ne, bne_eq_false_iff_eq, Ne] at *
             omega)
    · have he : wordLoop 0 s.data.toList = true := by rw [Hw.out, List.drop_of_length_le (by simp; show s.size ≤ k; omega)]; rfl
      have He := Lib.hid he
      clear he Hw
      by_cases c1 : s.size = 0
      · have hn : s.toList = [] := by rw [toList_nil]; exact c1
        have hf : wordB s = false := by simp [wordB, c1]
        have Hf := Lib.hid hf
        clear hf c1
        go_wp2_with fail
        go_ret
        exact ⟨by rw [Hf.out]; first | rfl | simp [hn], rfl⟩
      · have hn : ¬ s.toList = [] := by rw [toList_nil]; exact c1
        by_cases c2 : s.size ≤ 31
        · have h31 : (s.size : Int) ≤ 31 := by omega
          have hf : wordB s = !resB s := by simp [wordB, He.out, c1, c2]
          have Hf := Lib.hid hf
          clear hf c1 c2
          go_wp2_with (go_at_call 88; refine (reserved_any s w).mono ?_; rintro e w' ⟨rfl, rfl⟩)
          go_ret
          exact ⟨by rw [Hf.out]; first | rfl | simp [hn], rfl⟩
        · have h31 : ¬ (s.size : Int) ≤ 31 := by omega
          have hf : wordB s = false := by simp [wordB, c2]
          have Hf := Lib.hid hf
          clear hf c1 c2
          go_wp2_with fail
          go_ret
          exact ⟨by rw [Hf.out]; first | rfl | simp [hn], rfl⟩
end Go.Proofs.YtglnmkdlcbkpeaaGreatDoor
/- formula: a row looked at. -/
set_option linter.unusedVariables false
set_option linter.unusedSimpArgs false
namespace Go.Proofs.YtglnmkdlcbkpeaaGreatDoor
open Go.RowKit

def fitsN (n : Nat) (d : Nd) : Int :=
  if d.k = 1 then (if d.l ≠ 0 ∨ d.r ≠ 0 then 31 else if wordB d.s then 0 else 32)
  else if d.k = 2 then (if d.s.toList = [] ∧ d.l = 0 ∧ d.r = 0 then 0 else 31)
  else if d.k = 3 ∨ d.k = 4 ∨ d.k = 5 then (if d.s.toList = [] ∧ hasB n d.l = true ∧ hasB n d.r = true then 0 else 31)
  else 31

set_option maxHeartbeats 1000000 in
theorem fits_any (p : Nat) (a : Option Addr) (n c : Nat) (d : Nd) (w : World) (hs : d.s.size ≤ 140737488355328) (h0 : w.cell? ⟨p, 0, none⟩ = some (.slice a n c)) (hp : p < w.heap.size) :
    Calls Tryz.prog 69 #[.pointer (some ⟨p, 0, none⟩), d.val] w fun e w' => e = .returned (.int .i64 (fitsN n d)) ∧ Below w.heap.size w w' := by
  obtain ⟨k, s, l, r⟩ := d
  simp only [Nd.val]
  go_enter Tryz.func69, Tryz.ntmps69
  go_wp2_with (first | (go_at_call 82; refine (word_any _ _ hs).mono ?_; rintro e w' ⟨rfl, rfl⟩) | (go_at_call 39; refine (has_any p a n c _ _ (World.cell?_alloc_past _ _ _ hp ▸ h0)).mono ?_; rintro e w' ⟨rfl, rfl⟩))
  all_goals first
    | (go_ret; refine ⟨?_, (Below.refl _ _).alloc (Nat.le_refl _) _⟩; go_light; simp_all [fitsN]; done)
end Go.Proofs.YtglnmkdlcbkpeaaGreatDoor
/- What a call keeps; a table in memory. -/
set_option linter.unusedVariables false
set_option linter.unusedSimpArgs false
namespace Go.Proofs.YtglnmkdlcbkpeaaGreatDoor
open Go.RowKit

/-- All blocks of w but those of S are as they were; the streams too. -/
structure Fr (S : Nat → Prop) (w w' : World) : Prop where
  os : w'.os = w.os
  tape : w'.tape = w.tape
  output : w'.output = w.output
  size : w.heap.size ≤ w'.heap.size
  block : ∀ k, k < w.heap.size → ¬ S k → w'.heap[k]? = w.heap[k]?

section
variable {S T : Nat → Prop} {w w1 w2 : World}
theorem Fr.refl (S : Nat → Prop) (w : World) : Fr S w w := ⟨rfl, rfl, rfl, Nat.le_refl _, fun _ _ _ => rfl⟩
theorem Fr.trans (h : Fr S w w1) (k : Fr T w1 w2) (hs : ∀ i, i < w.heap.size → T i → S i) : Fr S w w2 :=
  ⟨k.os.trans h.os, k.tape.trans h.tape, k.output.trans h.output, Nat.le_trans h.size k.size, fun i hi hn => (k.block i (Nat.lt_of_lt_of_le hi h.size) (fun ht => hn (hs i hi ht))).trans (h.block i hi hn)⟩
theorem Fr.mono (h : Fr S w w1) (hs : ∀ i, i < w.heap.size → S i → T i) : Fr T w w1 := ⟨h.os, h.tape, h.output, h.size, fun i hi hn => h.block i hi (fun ht => hn (hs i hi ht))⟩
theorem Fr.of_below (h : Below w.heap.size w w1) (S : Nat → Prop) : Fr S w w1 := ⟨h.os, h.tape, h.output, h.size, fun i hi _ => h.block i hi⟩
theorem Fr.below (h : Fr (fun _ => False) w w1) : Below w.heap.size w w1 := ⟨h.os, h.tape, h.output, h.size, fun i hi => h.block i hi id⟩
theorem Fr.alloc (h : Fr S w w1) (o : Obj) : Fr S w (w1.alloc o) := h.trans (Fr.of_below ((Below.refl _ _).alloc (Nat.le_refl _) o) S) (fun _ _ h => h)
theorem Fr.drew (h : Fr S w w1) : Fr S w w1.drew := ⟨h.os, h.tape, h.output, h.size, h.block⟩
theorem Fr.drewN (h : Fr S w w1) (n : Nat) : Fr S w (w1.drewN n) := ⟨h.os, h.tape, h.output, h.size, h.block⟩
theorem Fr.setCell (h : Fr S w w1) (a : Addr) (v : Value) (ha : a.block < w.heap.size → S a.block) : Fr S w (w1.setCell a v) :=
  ⟨h.os, h.tape, h.output, by simpa [World.setCell] using h.size, fun k hk hn => (Below.heap_setCell w1 a v k (fun e => hn (e ▸ ha (e ▸ hk)))).trans (h.block k hk hn)⟩
theorem Fr.grown (h : Fr S w w1) {row : Option Nat} (hg : w1.grownBy w2 row) (hr : ∀ k, row = some k → k < w.heap.size → S k) : Fr S w w2 :=
  ⟨hg.os.trans h.os, hg.tape.trans h.tape, hg.output.trans h.output, Nat.le_trans h.size hg.size, fun k hk hn => (hg.block k (Nat.lt_of_lt_of_le hk h.size) (fun e => hn (hr k e.symm hk))).trans (h.block k hk hn)⟩
theorem Fr.blk (h : Fr S w w1) {k : Nat} {o : Obj} (hb : w.heap[k]? = some o) (hn : ¬ S k) : w1.heap[k]? = some o := (h.block k (Array.getElem?_eq_some_iff.1 hb).1 hn).trans hb
end

theorem blk_lt {w : World} {g : Nat} {o : Obj} (h : w.heap[g]? = some o) : g < w.heap.size := (Array.getElem?_eq_some_iff.1 h).1
theorem blk_below {w w1 : World} {g : Nat} {o : Obj} {B : Nat} (h : w.heap[g]? = some o) (hb : Below B w w1) (hg : g < B) : w1.heap[g]? = some o := (hb.block g hg).trans h
theorem blk_below' {w w1 : World} {g : Nat} {o : Obj} (h : w.heap[g]? = some o) (hb : Below w.heap.size w w1) : w1.heap[g]? = some o := blk_below h hb (blk_lt h)
theorem blk_alloc {w : World} {g : Nat} {o : Obj} (h : w.heap[g]? = some o) (x : Obj) : (w.alloc x).heap[g]? = some o := (Below.heap_alloc w x g (blk_lt h)).trans h
theorem blk_new (w : World) (o : Obj) : (w.alloc o).heap[w.heap.size]? = some o := by
  show (w.heap.push o)[w.heap.size]? = _
  simp
theorem blk_cell {w : World} {g : Nat} {t : TypeId} {cs : Array Value} {fr : Nat × Nat} (h : w.heap[g]? = some (.cells cs t fr)) (i : Nat) : w.cell? ⟨g, i, none⟩ = cs[i]? := cell_of_row w g i cs t fr h
theorem blk_frozen {w : World} {g : Nat} {t : TypeId} {cs : Array Value} (h : w.heap[g]? = some (.cells cs t (0, 0))) (i : Nat) : w.frozen? ⟨g, i, none⟩ = false := by simp [World.frozen?, h]
theorem blk_set {w : World} {g : Nat} {t : TypeId} {cs : Array Value} (h : w.heap[g]? = some (.cells cs t (0, 0))) (i : Nat) (u : Value) : (w.setCell ⟨g, i, none⟩ u).heap[g]? = some (.cells (cs.setIfInBounds i u) t (0, 0)) := by
  simp [World.setCell, Array.getElem?_modify, h]
theorem blk_far {w : World} {g : Nat} {o : Obj} (h : w.heap[g]? = some o) {p : Addr} (hp : g ≠ p.block) (u : Value) : (w.setCell p u).heap[g]? = some o := (Below.heap_setCell w p u g hp).trans h
theorem blk_grown {w w1 : World} {g : Nat} {o : Obj} {row : Option Nat} (h : w.heap[g]? = some o) (hg : w.grownBy w1 row) (hne : some g ≠ row) : w1.heap[g]? = some o := (hg.block g (blk_lt h) hne).trans h

theorem below_tail {w w1 : World} {o : Obj} (h : Below (w.alloc o).heap.size (w.alloc o) w1) : Below w.heap.size w w1 := ((Below.refl _ _).alloc (Nat.le_refl _) o).trans (h.mono (by simp))
theorem below_drewN {B : Nat} {w w1 : World} (h : Below B w w1) (n : Nat) : Below B w (w1.drewN n) := ⟨h.os, h.tape, h.output, h.size, h.block⟩

/-- A row of one's own is still one where its block is as it was. -/
theorem own_move {w w1 : World} {base : Nat} {e : TypeId} {size n : Nat} {v : Value} {xs : List Value} (h : w.ownsRow base e size v n xs) (hm : ∀ k, v.ownBlock = some k → w1.heap[k]? = w.heap[k]?) : w1.ownsRow base e size v n xs := by
  obtain ⟨h1, h2⟩ := h
  refine ⟨h1, ?_⟩
  rcases h2 with h2 | ⟨g, cap, cur, rfl, hg, hh, r⟩
  · exact .inl h2
  · exact .inr ⟨g, cap, cur, rfl, hg, (hm g (by simp [Value.ownBlock])).trans hh, r⟩
theorem own_typed {w : World} {base : Nat} {e : TypeId} {size n : Nat} {v : Value} {xs : List Value} (h : w.ownsRow base e size v n xs) (k : Nat) (hk : v.ownBlock = some k) : ∃ cells, w.heap[k]? = some (.cells cells e (0, 0)) := by
  rcases h.2 with ⟨rfl, _⟩ | ⟨g, cap, cur, rfl, hg, hh, r⟩
  · simp [Value.ownBlock] at hk
  · have : g = k := by simpa [Value.ownBlock] using hk
    subst this
    exact ⟨cur, hh⟩
theorem own_cell {w : World} {base : Nat} {e : TypeId} {size n c : Nat} {a : Option Addr} {xs : List Value} (h : w.ownsRow base e size (.slice a n c) n xs) (hn : 0 < n) :
    ∃ g, a = some ⟨g, 0, none⟩ ∧ ∀ j u, xs[j]? = some u → w.cell? ⟨g, j, none⟩ = some u := by
  rcases h.2 with ⟨h0, h1⟩ | ⟨g, cap, cur, hv, hb, hh, h3, h4, h5, h6⟩
  · omega
  · obtain ⟨rfl, _⟩ : a = some ⟨g, 0, none⟩ ∧ c = cap := by injection hv with h1 h2 h3; exact ⟨h1, h3⟩
    refine ⟨g, rfl, fun j u hu => ?_⟩
    rw [blk_cell hh j, ← hu, ← h6, List.getElem?_take]
    have : j < n * size := by
      have := (List.getElem?_eq_some_iff.1 hu).1
      rw [h.1] at this
      exact this
    rw [if_pos this, Array.getElem?_toList]

theorem own_eq {g n c q : Nat} (h : (Value.slice (some ⟨g, 0, none⟩) n c).ownBlock = some q) : q = g := by
  have : g = q := by simpa [Value.ownBlock] using h
  exact this.symm

def cellsOf (rows : List Nd) : List Value := rows.flatMap Nd.cells
def pairs (rows : List Nd) : List (Nd × Int) := rows.zipIdx.map fun x => (x.1, (x.2 : Int))
theorem cellsOf_length (rows : List Nd) : (cellsOf rows).length = rows.length * 4 := by
  induction rows with
  | nil => rfl
  | cons x xs ih => simp only [cellsOf, List.flatMap_cons, List.length_append] at *; rw [ih]; simp [Nd.cells]; omega
theorem cellsOf_append (a b : List Nd) : cellsOf (a ++ b) = cellsOf a ++ cellsOf b := by simp [cellsOf]
theorem cellsOf_get (rows : List Nd) (i : Nat) (h : i < rows.length) (j : Nat) (hj : j < 4) : (cellsOf rows)[i * 4 + j]? = rows[i].cells[j]? := by
  induction rows generalizing i with
  | nil => simp at h
  | cons x xs ih =>
    have hx : cellsOf (x :: xs) = x.cells ++ cellsOf xs := by simp [cellsOf]
    have hl : x.cells.length = 4 := rfl
    rw [hx]
    cases i with
    | zero => rw [List.getElem?_append_left (by omega)]; simp
    | succ i =>
      rw [List.getElem?_append_right (by omega), hl, show (i + 1) * 4 + j - 4 = i * 4 + j from by omega]
      exact ih i (by simpa using h)

/-- A table at block p of w: these rows; its blocks lie in F. -/
def Tab (w : World) (p : Nat) (rows : List Nd) (F : Nat → Prop) : Prop :=
  ∃ (m : Nat) (a : Option Addr) (c : Nat) (es : Array MapEntry) (clock : Nat),
    w.heap[p]? = some (.cells #[.slice a rows.length c, .map (some m)] 79 (0, 0)) ∧
    w.ownsRow 0 54 4 (.slice a rows.length c) rows.length (cellsOf rows) ∧
    w.heap[m]? = some (.map es clock) ∧ Ents es.toList (pairs rows) ∧ F p ∧ F m ∧ (∀ k, (Value.slice a rows.length c).ownBlock = some k → F k)
theorem Tab.mono {w : World} {p : Nat} {rows : List Nd} {F G : Nat → Prop} (h : Tab w p rows F) (hf : ∀ k, F k → G k) : Tab w p rows G := by
  obtain ⟨m, a, c, es, cl, h1, h2, h3, h4, h5, h6, h7⟩ := h
  exact ⟨m, a, c, es, cl, h1, h2, h3, h4, hf _ h5, hf _ h6, fun k hk => hf _ (h7 k hk)⟩
theorem Tab.bound {w : World} {p : Nat} {rows : List Nd} {F : Nat → Prop} (h : Tab w p rows F) : Tab w p rows (fun k => F k ∧ k < w.heap.size) := by
  obtain ⟨m, a, c, es, cl, h1, h2, h3, h4, h5, h6, h7⟩ := h
  refine ⟨m, a, c, es, cl, h1, h2, h3, h4, ⟨h5, blk_lt h1⟩, ⟨h6, blk_lt h3⟩, fun k hk => ⟨h7 k hk, ?_⟩⟩
  obtain ⟨cs, hc⟩ := own_typed h2 k hk
  exact blk_lt hc
theorem Tab.move {w w1 : World} {p : Nat} {rows : List Nd} {F : Nat → Prop} (h : Tab w p rows F) (hm : ∀ k, F k → k < w.heap.size → w1.heap[k]? = w.heap[k]?) : Tab w1 p rows F := by
  obtain ⟨m, a, c, es, cl, h1, h2, h3, h4, h5, h6, h7⟩ := h.bound
  exact ⟨m, a, c, es, cl, (hm p h5.1 h5.2).trans h1, own_move h2 (fun k hk => hm k (h7 k hk).1 (h7 k hk).2), (hm m h6.1 h6.2).trans h3, h4, h5.1, h6.1, fun k hk => (h7 k hk).1⟩
theorem Tab.below {w w1 : World} {p : Nat} {rows : List Nd} {F : Nat → Prop} (h : Tab w p rows F) (hb : Below w.heap.size w w1) : Tab w1 p rows F := h.move (fun k _ hk => hb.block k hk)
theorem Tab.fr {w w1 : World} {p : Nat} {rows : List Nd} {F S : Nat → Prop} (h : Tab w p rows F) (hb : Fr S w w1) (hn : ∀ k, F k → k < w.heap.size → ¬ S k) : Tab w1 p rows F := h.move (fun k hf hk => hb.block k hk (hn k hf hk))
end Go.Proofs.YtglnmkdlcbkpeaaGreatDoor
/- formula: Put. -/
set_option linter.unusedVariables false
set_option linter.unusedSimpArgs false
namespace Go.Proofs.YtglnmkdlcbkpeaaGreatDoor
open Go.RowKit

def findN (rows : List Nd) (d : Nd) : Option Nat := rows.findIdx? (fun x => decide (d = x))
def putR (rows : List Nd) (d : Nd) : Int × Int × List Nd :=
  if fitsN rows.length d ≠ 0 then (0, fitsN rows.length d, rows)
  else match findN rows d with
    | some i => (i, 0, rows)
    | none => if 1024 ≤ rows.length then (0, 30, rows) else (rows.length, 0, rows ++ [d])

theorem findAt_pairs' (d : Nd) : ∀ (rows : List Nd) (k i : Nat), findAt d ((rows.zipIdx k).map fun x => (x.1, (x.2 : Int))) i = (findN rows d).map fun j => (j + i, ((j + k : Nat) : Int)) := by
  intro rows
  induction rows with
  | nil => intro k i; rfl
  | cons x xs ih =>
    intro k i
    simp only [List.zipIdx_cons, List.map_cons, findAt, findN, List.findIdx?_cons]
    by_cases h : d = x
    · simp [h]
    · have h' := ih (k + 1) (i + 1)
      simp only [findN] at h'
      simp only [h, if_false, decide_false, h', Option.map_map, Bool.false_eq_true]
      congr 1
      funext j
      simp only [Function.comp, Prod.mk.injEq]
      constructor <;> omega
theorem findAt_pairs (d : Nd) (rows : List Nd) : findAt d (pairs rows) 0 = (findN rows d).map fun (j : Nat) => (j, (j : Int)) := by
  have := findAt_pairs' d rows 0 0
  simpa [pairs] using this

theorem look_tab {w : World} {m : Nat} {es : Array MapEntry} {clock : Nat} {rows : List Nd} (hm : w.heap[m]? = some (.map es clock)) (he : Ents es.toList (pairs rows)) (d : Nd) :
    (Instr.lookup 77 (.map (some m)) d.val true).run Tryz.prog w = .ok (.tuple #[.int .i64 (((findN rows d).map Int.ofNat).getD 0), .bool (findN rows d).isSome]) w := by
  rw [look_node hm he d, findAt_pairs]
  cases findN rows d <;> rfl

theorem info_node : (Tryz.prog.info? 54).map (fun i => (i.zero, i.size, i.bytes)) = some (some (.agg #[.int .i64 0, .string ⟨#[]⟩, .int .i64 0, .int .i64 0]), 4, 40) := by kernel_rfl
theorem under_nodes : Tryz.prog.underlying 22 = some (.slice 54) := by kernel_rfl

theorem node_news {w : World} {B : Nat} (d : Nd) (hB : w.heap[B]? = some (.cells #[.int .i64 d.k, .string d.s, .int .i64 d.l, .int .i64 d.r] 54 (0, 0))) : ∀ j u, d.cells[j]? = some u → w.cell? ((⟨B, 0, none⟩ : Addr).add j) = some u :=
  World.news_of_block (cs := #[.int .i64 d.k, .string d.s, .int .i64 d.l, .int .i64 d.r]) (t := 54) (fr := (0, 0)) hB
theorem node_one (d : Nd) : ∀ u ∈ d.cells, u.oneCell' = true := by
  intro u hu
  simp only [Nd.cells, List.mem_cons, List.not_mem_nil, or_false] at hu
  rcases hu with rfl | rfl | rfl | rfl <;> rfl
/-- append(rows, d), at a step of a region that draws. -/
theorem step_node {ops : Array Oper} {o : Oper} {a : Act} {w : World} {K : Act → World → Prop} {Q : Exit → Act → World → Prop} {E : Prop} (hgd : o.guard = none) (s x : Operand)
    (ho : o.op = .call { callee := .builtin .append, args := #[s, x], argTypes := #[22, 22] }) (v : Value) (n : Nat) (xs : List Value) (hs : a.eval s = v) (B : Nat) (hx : a.eval x = .slice (some ⟨B, 0, none⟩) 1 1)
    (d : Nd) (hown : w.ownsRow 0 54 4 v n xs) (hB : w.heap[B]? = some (.cells #[.int .i64 d.k, .string d.s, .int .i64 d.l, .int .i64 d.r] 54 (0, 0))) (hn : n ≤ 1099511627776)
    (h : ∀ g cap w', w'.ownsRow 0 54 4 (.slice (some ⟨g, 0, none⟩) (n + 1) cap) (n + 1) (xs ++ d.cells) → w.grownBy w' v.ownBlock → (v.ownBlock = some g ∨ g = w.heap.size) → g < w'.heap.size → K (a.put o.dst (.slice (some ⟨g, 0, none⟩) (n + 1) cap)) w') :
    if Region.wanted o (yielded ops a.tmps) = true then Oper.wp Tryz.prog o a w K Q else E := by
  obtain ⟨i0, hi, hz0, hz1, hz2⟩ := info_parts info_node
  exact step_append_lies w hgd s x 22 ho 0 54 i0 _ 4 40 under_nodes hi hz0 hz1 hz2 rfl (by decide) v n xs hs hown ⟨B, 0, none⟩ 1 1 d.cells hx rfl (node_news d hB) (node_one d) (by decide) (by unfold maxLen; omega) (by omega) (Nat.zero_le _) _ rfl h
/-- The same in a plain region. -/
theorem list_node {ops : Array Oper} {rest : List Oper} {o : Oper} {a : Act} {w : World} {Q : Exit → Act → World → Prop} (hgd : o.guard = none) (s x : Operand)
    (ho : o.op = .call { callee := .builtin .append, args := #[s, x], argTypes := #[22, 22] }) (v : Value) (n : Nat) (xs : List Value) (hs : a.eval s = v) (B : Nat) (hx : a.eval x = .slice (some ⟨B, 0, none⟩) 1 1)
    (d : Nd) (hown : w.ownsRow 0 54 4 v n xs) (hB : w.heap[B]? = some (.cells #[.int .i64 d.k, .string d.s, .int .i64 d.l, .int .i64 d.r] 54 (0, 0))) (hn : n ≤ 1099511627776)
    (h : ∀ g cap w', w'.ownsRow 0 54 4 (.slice (some ⟨g, 0, none⟩) (n + 1) cap) (n + 1) (xs ++ d.cells) → w.grownBy w' v.ownBlock → (v.ownBlock = some g ∨ g = w.heap.size) → g < w'.heap.size → wpList Tryz.prog ops Q rest (a.put o.dst (.slice (some ⟨g, 0, none⟩) (n + 1) cap)) w') :
    wpList Tryz.prog ops Q (o :: rest) a w := by
  obtain ⟨i0, hi, hz0, hz1, hz2⟩ := info_parts info_node
  exact wpList_append_lies w hgd s x 22 ho 0 54 i0 _ 4 40 under_nodes hi hz0 hz1 hz2 rfl (by decide) v n xs hs hown ⟨B, 0, none⟩ 1 1 d.cells hx rfl (node_news d hB) (node_one d) (by decide) (by unfold maxLen; omega) (by omega) (Nat.zero_le _) _ rfl h

set_option maxHeartbeats 1000000 in
theorem put_unfit (w : World) (p : Nat) (m : Nat) (a : Option Addr) (c n : Nat) (es : Array MapEntry) (clock : Nat) (d : Nd) (x : Int) (hs : d.s.size ≤ 140737488355328)
    (h1 : w.heap[p]? = some (.cells #[.slice a n c, .map (some m)] 79 (0, 0))) (h3 : w.heap[m]? = some (.map es clock)) (hf : fitsN n d = x) (hx : x ≠ 0) :
    Calls Tryz.prog 56 #[.pointer (some ⟨p, 0, none⟩), d.val] w fun e w' => e = .returned (.tuple #[.int .i64 0, .int .i64 x]) ∧ Below w.heap.size w w' := by
  have hp := blk_lt h1
  have c0 : w.cell? ⟨p, 0, none⟩ = some (.slice a n c) := (blk_cell h1 0).trans rfl
  have c1 : w.cell? ⟨p, 1, none⟩ = some (.map (some m)) := (blk_cell h1 1).trans rfl
  obtain ⟨k, s, l, r⟩ := d
  simp only [Nd.val] at *
  have Hf := Lib.hid hf
  clear hf
  go_enter Tryz.func56, Tryz.ntmps56
  go_wp2_with fail
  refine (alive_some p m _ ((World.cell?_alloc_past _ _ _ hp).trans c1)).mono ?_
  rintro e w1 ⟨rfl, rfl⟩
  go_wp2_with fail
  refine (fits_any p a n c ⟨k, s, l, r⟩ _ hs ((World.cell?_alloc_past _ _ _ hp).trans c0) (by simp; omega)).mono ?_
  rintro e w1 ⟨rfl, hb⟩
  rw [Hf.out]
  have hx1 : (x != 0) = true := bne_iff_ne.2 hx
  clear h1 h3 c0 c1
  go_wp2_with fail
  go_ret2
  exact ⟨rfl, below_tail hb⟩

set_option maxHeartbeats 1000000 in
theorem put_found (w : World) (p : Nat) (m : Nat) (a : Option Addr) (c n : Nat) (es : Array MapEntry) (clock : Nat) (d : Nd) (i : Int) (hs : d.s.size ≤ 140737488355328)
    (h1 : w.heap[p]? = some (.cells #[.slice a n c, .map (some m)] 79 (0, 0))) (h3 : w.heap[m]? = some (.map es clock)) (hf : fitsN n d = 0)
    (hl : ∀ W : World, W.heap[m]? = some (.map es clock) → (Instr.lookup 77 (.map (some m)) d.val true).run Tryz.prog W = .ok (.tuple #[.int .i64 i, .bool true]) W) :
    Calls Tryz.prog 56 #[.pointer (some ⟨p, 0, none⟩), d.val] w fun e w' => e = .returned (.tuple #[.int .i64 i, .int .i64 0]) ∧ Below w.heap.size w w' := by
  have hp := blk_lt h1
  have c0 : w.cell? ⟨p, 0, none⟩ = some (.slice a n c) := (blk_cell h1 0).trans rfl
  have c1 : w.cell? ⟨p, 1, none⟩ = some (.map (some m)) := (blk_cell h1 1).trans rfl
  obtain ⟨k, s, l, r⟩ := d
  simp only [Nd.val] at *
  have Hf := Lib.hid hf
  clear hf
  have Hl := Lib.hid hl
  clear hl
  go_enter Tryz.func56, Tryz.ntmps56
  go_wp2_with fail
  refine (alive_some p m _ ((World.cell?_alloc_past _ _ _ hp).trans c1)).mono ?_
  rintro e w1 ⟨rfl, rfl⟩
  go_wp2_with fail
  refine (fits_any p a n c ⟨k, s, l, r⟩ _ hs ((World.cell?_alloc_past _ _ _ hp).trans c0) (by simp; omega)).mono ?_
  rintro e w1 ⟨rfl, hb⟩
  rw [Hf.out]
  have e1 := blk_below' (blk_alloc h1 _) hb
  have e3 := blk_below' (blk_alloc h3 _) hb
  have eb := blk_below' (blk_new w _) hb
  have d0 : w1.cell? ⟨p, 0, none⟩ = some (.slice a n c) := (blk_cell e1 0).trans rfl
  have d1 : w1.cell? ⟨p, 1, none⟩ = some (.map (some m)) := (blk_cell e1 1).trans rfl
  have b0 : w1.cell? ⟨w.heap.size, 0, none⟩ = some (.int .i64 k) := (blk_cell eb 0).trans rfl
  have b1 : w1.cell? ⟨w.heap.size, 1, none⟩ = some (.string s) := (blk_cell eb 1).trans rfl
  have b2 : w1.cell? ⟨w.heap.size, 2, none⟩ = some (.int .i64 l) := (blk_cell eb 2).trans rfl
  have b3 : w1.cell? ⟨w.heap.size, 3, none⟩ = some (.int .i64 r) := (blk_cell eb 3).trans rfl
  have Eb := Lib.hid eb
  have E1 := Lib.hid e1
  have E3 := Lib.hid e3
  clear eb e1 e3 h1 h3 c0 c1
  go_wp2_with fail
  have hlk := fun q => Hl.out (w1.drewN q) E3.out
  go_quiet (fail)
  clear hlk
  go_wp2_with fail
  go_ret2
  exact ⟨rfl, below_drewN (below_tail hb) _⟩

set_option maxHeartbeats 1000000 in
theorem put_full (w : World) (p : Nat) (m : Nat) (a : Option Addr) (c n : Nat) (es : Array MapEntry) (clock : Nat) (d : Nd) (hs : d.s.size ≤ 140737488355328) (hn : 1024 ≤ n) (hn2 : n ≤ 140737488355328)
    (h1 : w.heap[p]? = some (.cells #[.slice a n c, .map (some m)] 79 (0, 0))) (h3 : w.heap[m]? = some (.map es clock)) (hf : fitsN n d = 0)
    (hl : ∀ W : World, W.heap[m]? = some (.map es clock) → (Instr.lookup 77 (.map (some m)) d.val true).run Tryz.prog W = .ok (.tuple #[.int .i64 0, .bool false]) W) :
    Calls Tryz.prog 56 #[.pointer (some ⟨p, 0, none⟩), d.val] w fun e w' => e = .returned (.tuple #[.int .i64 0, .int .i64 30]) ∧ Below w.heap.size w w' := by
  have hn1 : (1024 : Int) ≤ n := by omega
  have hp := blk_lt h1
  have c0 : w.cell? ⟨p, 0, none⟩ = some (.slice a n c) := (blk_cell h1 0).trans rfl
  have c1 : w.cell? ⟨p, 1, none⟩ = some (.map (some m)) := (blk_cell h1 1).trans rfl
  obtain ⟨k, s, l, r⟩ := d
  simp only [Nd.val] at *
  have Hf := Lib.hid hf
  clear hf
  have Hl := Lib.hid hl
  clear hl
  go_enter Tryz.func56, Tryz.ntmps56
  go_wp2_with fail
  refine (alive_some p m _ ((World.cell?_alloc_past _ _ _ hp).trans c1)).mono ?_
  rintro e w1 ⟨rfl, rfl⟩
  go_wp2_with fail
  refine (fits_any p a n c ⟨k, s, l, r⟩ _ hs ((World.cell?_alloc_past _ _ _ hp).trans c0) (by simp; omega)).mono ?_
  rintro e w1 ⟨rfl, hb⟩
  rw [Hf.out]
  have e1 := blk_below' (blk_alloc h1 _) hb
  have e3 := blk_below' (blk_alloc h3 _) hb
  have eb := blk_below' (blk_new w _) hb
  have d0 : w1.cell? ⟨p, 0, none⟩ = some (.slice a n c) := (blk_cell e1 0).trans rfl
  have d1 : w1.cell? ⟨p, 1, none⟩ = some (.map (some m)) := (blk_cell e1 1).trans rfl
  have b0 : w1.cell? ⟨w.heap.size, 0, none⟩ = some (.int .i64 k) := (blk_cell eb 0).trans rfl
  have b1 : w1.cell? ⟨w.heap.size, 1, none⟩ = some (.string s) := (blk_cell eb 1).trans rfl
  have b2 : w1.cell? ⟨w.heap.size, 2, none⟩ = some (.int .i64 l) := (blk_cell eb 2).trans rfl
  have b3 : w1.cell? ⟨w.heap.size, 3, none⟩ = some (.int .i64 r) := (blk_cell eb 3).trans rfl
  have Eb := Lib.hid eb
  have E1 := Lib.hid e1
  have E3 := Lib.hid e3
  clear eb e1 e3 h1 h3 c0 c1
  go_wp2_with fail
  have hlk := fun q => Hl.out (w1.drewN q) E3.out
  go_quiet (fail)
  clear hlk
  go_wp2_with fail
  go_ret2
  exact ⟨rfl, below_drewN (below_tail hb) _⟩
end Go.Proofs.YtglnmkdlcbkpeaaGreatDoor
/- formula: Put, a new row. -/
set_option linter.unusedVariables false
set_option linter.unusedSimpArgs false
namespace Go.Proofs.YtglnmkdlcbkpeaaGreatDoor
open Go.RowKit

/-- What a new row leaves. -/
def PutNew (w : World) (p m : Nat) (a : Option Addr) (c n : Nat) (es : Array MapEntry) (clock : Nat) (d : Nd) (xs : List Value) (e : Ending) (w' : World) : Prop :=
  e = .returned (.tuple #[.int .i64 n, .int .i64 0]) ∧ ∃ g cap, w'.heap[p]? = some (.cells #[.slice (some ⟨g, 0, none⟩) (n + 1) cap, .map (some m)] 79 (0, 0)) ∧
    w'.ownsRow 0 54 4 (.slice (some ⟨g, 0, none⟩) (n + 1) cap) (n + 1) (xs ++ d.cells) ∧ w'.heap[m]? = some (.map (es.push { key := d.val, val := .int .i64 n, born := clock }) (clock + 1)) ∧
    ((Value.slice a n c).ownBlock = some g ∨ w.heap.size ≤ g) ∧ Fr (fun k => k = p ∨ k = m ∨ (Value.slice a n c).ownBlock = some k) w w'

set_option maxRecDepth 100000 in
set_option maxHeartbeats 1000000 in
theorem put_new (w : World) (p : Nat) (m : Nat) (a : Option Addr) (c n : Nat) (es : Array MapEntry) (clock : Nat) (d : Nd) (xs : List Value) (hs : d.s.size ≤ 140737488355328) (hn : n < 1024)
    (h1 : w.heap[p]? = some (.cells #[.slice a n c, .map (some m)] 79 (0, 0))) (h3 : w.heap[m]? = some (.map es clock)) (hf : fitsN n d = 0)
    (ho : w.ownsRow 0 54 4 (.slice a n c) n xs)
    (hu : ∀ W : World, W.heap[m]? = some (.map es clock) → (Instr.mapUpdate 77 (.map (some m)) d.val (.int .i64 n)).run Tryz.prog W = .ok () (putBlk W m (.map (es.push { key := d.val, val := .int .i64 n, born := clock }) (clock + 1))))
    (hl : ∀ W : World, W.heap[m]? = some (.map es clock) → (Instr.lookup 77 (.map (some m)) d.val true).run Tryz.prog W = .ok (.tuple #[.int .i64 0, .bool false]) W) :
    Calls Tryz.prog 56 #[.pointer (some ⟨p, 0, none⟩), d.val] w (PutNew w p m a c n es clock d xs) := by
  have hn1 : (n : Int) < 1024 := by omega
  have hp := blk_lt h1
  have c0 : w.cell? ⟨p, 0, none⟩ = some (.slice a n c) := (blk_cell h1 0).trans rfl
  have c1 : w.cell? ⟨p, 1, none⟩ = some (.map (some m)) := (blk_cell h1 1).trans rfl
  obtain ⟨i0, hi, hz0, hz1, hz2⟩ := info_parts info_node
  obtain ⟨k, s, l, r⟩ := d
  simp only [Nd.val] at *
  have Hf := Lib.hid hf
  clear hf
  have Hl := Lib.hid hl
  clear hl
  have HO := Lib.hid ho
  clear ho
  have Hu := Lib.hid hu
  clear hu
  go_enter Tryz.func56, Tryz.ntmps56
  go_wp2_with fail
  refine (alive_some p m _ ((World.cell?_alloc_past _ _ _ hp).trans c1)).mono ?_
  rintro e w1 ⟨rfl, rfl⟩
  go_wp2_with fail
  refine (fits_any p a n c ⟨k, s, l, r⟩ _ hs ((World.cell?_alloc_past _ _ _ hp).trans c0) (by simp; omega)).mono ?_
  rintro e w1 ⟨rfl, hb⟩
  rw [Hf.out]
  have e1 := blk_below' (blk_alloc h1 _) hb
  have e3 := blk_below' (blk_alloc h3 _) hb
  have eb := blk_below' (blk_new w _) hb
  have d0 : w1.cell? ⟨p, 0, none⟩ = some (.slice a n c) := (blk_cell e1 0).trans rfl
  have d1 : w1.cell? ⟨p, 1, none⟩ = some (.map (some m)) := (blk_cell e1 1).trans rfl
  have b0 : w1.cell? ⟨w.heap.size, 0, none⟩ = some (.int .i64 k) := (blk_cell eb 0).trans rfl
  have b1 : w1.cell? ⟨w.heap.size, 1, none⟩ = some (.string s) := (blk_cell eb 1).trans rfl
  have b2 : w1.cell? ⟨w.heap.size, 2, none⟩ = some (.int .i64 l) := (blk_cell eb 2).trans rfl
  have b3 : w1.cell? ⟨w.heap.size, 3, none⟩ = some (.int .i64 r) := (blk_cell eb 3).trans rfl
  have Eb := Lib.hid eb
  have E1 := Lib.hid e1
  have E3 := Lib.hid e3
  clear eb e1 e3 h1 h3 c0 c1
  go_wp2_with fail
  have hlk := fun q => Hl.out (w1.drewN q) E3.out
  go_quiet (fail)
  clear hlk
  go_wp2_with fail
  generalize hW : World.drewN _ _ = w2
  have f1 : w2.heap[p]? = some (.cells #[.slice a n c, .map (some m)] 79 (0, 0)) := by rw [← hW]; exact E1.out
  have f3 : w2.heap[m]? = some (.map es clock) := by rw [← hW]; exact E3.out
  have fb : w2.heap[w.heap.size]? = some (.cells #[.int .i64 k, .string s, .int .i64 l, .int .i64 r] 54 (0, 0)) := by rw [← hW]; exact Eb.out
  have hb2 : Below w.heap.size w w2 := by rw [← hW]; exact below_drewN (below_tail hb) _
  have HB2 := Lib.hid hb2
  have ho2 : w2.ownsRow 0 54 4 (.slice a n c) n xs := own_move HO.out (fun k hk => hb2.block k (by obtain ⟨cs, hc⟩ := own_typed HO.out k hk; exact blk_lt hc))
  have HO2 := Lib.hid ho2
  have HO0 := HO
  clear d0 d1 b0 b1 b2 b3 hb HO hW ho2 hb2 E1 E3 Eb
  have d0 : w2.cell? ⟨p, 0, none⟩ = some (.slice a n c) := (blk_cell f1 0).trans rfl
  have d1 : w2.cell? ⟨p, 1, none⟩ = some (.map (some m)) := (blk_cell f1 1).trans rfl
  have b0 : w2.cell? ⟨w.heap.size, 0, none⟩ = some (.int .i64 k) := (blk_cell fb 0).trans rfl
  have b1 : w2.cell? ⟨w.heap.size, 1, none⟩ = some (.string s) := (blk_cell fb 1).trans rfl
  have b2 : w2.cell? ⟨w.heap.size, 2, none⟩ = some (.int .i64 l) := (blk_cell fb 2).trans rfl
  have b3 : w2.cell? ⟨w.heap.size, 3, none⟩ = some (.int .i64 r) := (blk_cell fb 3).trans rfl
  have hp2 := blk_lt f1
  have hq2 := blk_lt fb
  have F1 := Lib.hid f1
  have F3 := Lib.hid f3
  have Fb := Lib.hid fb
  clear f1 f3 fb
  have hne : some p ≠ (Value.slice a n c).ownBlock := fun e => by
    obtain ⟨cs, hc⟩ := own_typed HO2.out p e.symm
    rw [F1.out] at hc
    injection hc with hc
    injection hc with _ ht
    exact absurd ht (by decide)
  have Hne := Lib.hid hne
  have hnm : some m ≠ (Value.slice a n c).ownBlock := fun e => by
    obtain ⟨cs, hc⟩ := own_typed HO2.out m e.symm
    rw [F3.out] at hc
    injection hc with hc
    exact absurd hc (by simp)
  have Hnm := Lib.hid hnm
  have hnb : some w.heap.size ≠ (Value.slice a n c).ownBlock := fun e => by
    obtain ⟨cs, hc⟩ := own_typed HO0.out w.heap.size e.symm
    have := blk_lt hc
    omega
  have Hnb := Lib.hid hnb
  clear hne hnm hnb
  go_region_law (first
    | ((
       refine step_node rfl _ _ rfl (.slice a n c) n xs rfl w2.heap.size rfl ⟨k, s, l, r⟩ (own_move HO2.out ?_) ?_ ?_ ?_
       · intro k hk
         exact Below.heap_alloc w2 _ k (by obtain ⟨cs, hc⟩ := own_typed HO2.out k hk; exact blk_lt hc)
       · exact blk_new w2 _
       · omega
       intro g cap w3 hown hgrow hat hlt
       have g1 : w3.heap[p]? = some (.cells #[.slice a n c, .map (some m)] 79 (0, 0)) := (hgrow.block p (by simp; omega) Hne.out).trans (blk_alloc F1.out _)
       have q0 : w3.cell? ⟨p, 0, none⟩ = some (.slice a n c) := (blk_cell g1 0).trans rfl
       have q1 : w3.frozen? ⟨p, 0, none⟩ = false := blk_frozen g1 0
       have g3 : w3.heap[m]? = some (.map es clock) := (hgrow.block m (by have := blk_lt F3.out; simp; omega) Hnm.out).trans (blk_alloc F3.out _)
       have gb : w3.heap[w.heap.size]? = some (.cells #[.int .i64 k, .string s, .int .i64 l, .int .i64 r] 54 (0, 0)) := (hgrow.block w.heap.size (by simp; omega) Hnb.out).trans (blk_alloc Fb.out _)
       have G3 := Lib.hid g3
       have Gb := Lib.hid gb
       have Hown := Lib.hid hown
       have Hgrow := Lib.hid hgrow
       have Hat := Lib.hid hat
       have G1 := Lib.hid g1
       clear hown hgrow hat g1 g3 gb)))
  all_goals
    go_wp2_with fail
    generalize hw4 : World.setCell _ _ _ = w4
    have k1 : w4.heap[p]? = some (.cells #[.slice (some ⟨g, 0, none⟩) (n + 1) cap, .map (some m)] 79 (0, 0)) := by rw [← hw4]; exact blk_set G1.out 0 _
    have hmp : m ≠ p := fun e => by have := G3.out; rw [e, G1.out] at this; exact absurd this (by simp)
    have hbp : w.heap.size ≠ p := by omega
    have k3 : w4.heap[m]? = some (.map es clock) := by rw [← hw4]; exact blk_far G3.out hmp _
    have kb : w4.heap[w.heap.size]? = some (.cells #[.int .i64 k, .string s, .int .i64 l, .int .i64 r] 54 (0, 0)) := by rw [← hw4]; exact blk_far Gb.out hbp _
    have hgp : g ≠ p := fun e => by
      obtain ⟨cs, hc⟩ := own_typed Hown.out g rfl
      rw [e, G1.out] at hc
      injection hc with hc
      injection hc with _ ht
      exact absurd ht (by decide)
    have hgm : g ≠ m := fun e => by
      obtain ⟨cs, hc⟩ := own_typed Hown.out g rfl
      rw [e, G3.out] at hc
      injection hc with hc
      exact absurd hc (by simp)
    have ko : w4.ownsRow 0 54 4 (.slice (some ⟨g, 0, none⟩) (n + 1) cap) (n + 1) (xs ++ Nd.cells ⟨k, s, l, r⟩) := by
      rw [← hw4]
      exact own_move Hown.out (fun q hq => Below.heap_setCell w3 _ _ q (by rw [own_eq hq]; exact hgp))
    have kf : Fr (fun k => k = p ∨ k = m ∨ (Value.slice a n c).ownBlock = some k) w w4 := by
      rw [← hw4]
      refine Fr.setCell (Fr.grown (Fr.drew (Fr.alloc (Fr.of_below HB2.out _) _)) Hgrow.out ?_) _ _ (fun _ => .inl rfl)
      exact fun q hq _ => .inr (.inr hq)
    have hup := Hu.out w4.drew k3
    have c0 : w4.cell? ⟨p, 0, none⟩ = some (.slice (some ⟨g, 0, none⟩) (n + 1) cap) := (blk_cell k1 0).trans rfl
    have c1 : w4.cell? ⟨p, 1, none⟩ = some (.map (some m)) := (blk_cell k1 1).trans rfl
    have e0 : w4.cell? ⟨w.heap.size, 0, none⟩ = some (.int .i64 k) := (blk_cell kb 0).trans rfl
    have e1 : w4.cell? ⟨w.heap.size, 1, none⟩ = some (.string s) := (blk_cell kb 1).trans rfl
    have e2 : w4.cell? ⟨w.heap.size, 2, none⟩ = some (.int .i64 l) := (blk_cell kb 2).trans rfl
    have e3 : w4.cell? ⟨w.heap.size, 3, none⟩ = some (.int .i64 r) := (blk_cell kb 3).trans rfl
    have Hfin : Hid (PutNew w p m a c n es clock ⟨k, s, l, r⟩ xs (.returned (.tuple #[.int .i64 n, .int .i64 0])) (putBlk w4.drew m (.map (es.push { key := Nd.val ⟨k, s, l, r⟩, val := .int .i64 n, born := clock }) (clock + 1)))) := by
      have hs4 : ∀ q, q ≠ m → (putBlk w4.drew m (.map (es.push { key := Nd.val ⟨k, s, l, r⟩, val := .int .i64 n, born := clock }) (clock + 1))).heap[q]? = w4.heap[q]? := fun q hq => by
        show (w4.heap.setIfInBounds m _)[q]? = _
        rw [Array.getElem?_setIfInBounds_ne (Ne.symm hq)]
      refine ⟨rfl, g, cap, (hs4 p (Ne.symm hmp)).trans k1, own_move ko (fun q hq => hs4 q (by rw [own_eq hq]; exact hgm)), ?_, ?_, ?_⟩
      · show (w4.heap.setIfInBounds m _)[m]? = _
        rw [Array.getElem?_setIfInBounds_self_of_lt (blk_lt k3)]
      · have := HB2.out.size
        rcases Hat.out with h | h
        · exact .inl h
        · exact .inr (by rw [h]; simp; omega)
      · refine ⟨kf.os, kf.tape, kf.output, by simpa [putBlk] using kf.size, fun q hq hn => (hs4 q (fun e => hn (.inr (.inl e)))).trans (kf.block q hq hn)⟩
    clear k1 k3 kb ko kf hmp hbp hgp hgm hw4 q0 q1 d0 d1 b0 b1 b2 b3
    go_region
    all_goals
      go_wp2_with fail
      go_ret2
      exact Hfin
end Go.Proofs.YtglnmkdlcbkpeaaGreatDoor
/- formula: Put over tables; New, Node, Len. -/
set_option linter.unusedVariables false
set_option linter.unusedSimpArgs false
namespace Go.Proofs.YtglnmkdlcbkpeaaGreatDoor
open Go.RowKit

theorem pairs_append (rows : List Nd) (d : Nd) : pairs (rows ++ [d]) = pairs rows ++ [(d, (rows.length : Int))] := by
  simp [pairs, List.zipIdx_append]
theorem ents_push {es : Array MapEntry} {rows : List Nd} (h : Ents es.toList (pairs rows)) (d : Nd) (b : Nat) :
    Ents (es.push { key := d.val, val := .int .i64 (rows.length : Int), born := b }).toList (pairs (rows ++ [d])) := by
  simp only [Ents, Array.toList_push, List.map_append, pairs_append] at *
  rw [h]
  rfl

def PutPost (w : World) (p : Nat) (rows : List Nd) (F : Nat → Prop) (d : Nd) (e : Ending) (w' : World) : Prop :=
  e = .returned (.tuple #[.int .i64 (putR rows d).1, .int .i64 (putR rows d).2.1]) ∧ Tab w' p (putR rows d).2.2 (fun k => F k ∨ w.heap.size ≤ k) ∧ Fr F w w'

theorem put_tab (w : World) (p : Nat) (rows : List Nd) (F : Nat → Prop) (d : Nd) (hT : Tab w p rows F) (hl : rows.length ≤ 1024) (hs : d.s.size ≤ 140737488355328) :
    Calls Tryz.prog 56 #[.pointer (some ⟨p, 0, none⟩), d.val] w (PutPost w p rows F d) := by
  obtain ⟨m, a, c, es, cl, h1, h2, h3, h4, h5, h6, h7⟩ := id hT
  by_cases hf : fitsN rows.length d = 0
  · have hlk := fun (W : World) (hm : W.heap[m]? = some (.map es cl)) => look_tab hm h4 d
    cases hfi : findN rows d with
    | some i =>
      rw [hfi] at hlk
      refine (put_found w p m a c rows.length es cl d (Int.ofNat i) hs h1 h3 hf hlk).mono ?_
      rintro e w' ⟨rfl, hb⟩
      have hp : putR rows d = (((i : Nat) : Int), 0, rows) := by simp [putR, hf, hfi]
      rw [PutPost, hp]
      exact ⟨rfl, (hT.below hb).mono (fun k hk => .inl hk), Fr.of_below hb F⟩
    | none =>
      rw [hfi] at hlk
      by_cases hn : 1024 ≤ rows.length
      · refine (put_full w p m a c rows.length es cl d hs hn (by omega) h1 h3 hf hlk).mono ?_
        rintro e w' ⟨rfl, hb⟩
        have hp : putR rows d = (0, 30, rows) := by simp [putR, hf, hfi, hn]
        rw [PutPost, hp]
        exact ⟨rfl, (hT.below hb).mono (fun k hk => .inl hk), Fr.of_below hb F⟩
      · have hup := fun (W : World) (hm : W.heap[m]? = some (.map es cl)) => upd_node hm h4 d (by rw [findAt_pairs, hfi]; rfl) (.int .i64 (rows.length : Int))
        refine (put_new w p m a c rows.length es cl d (cellsOf rows) hs (by omega) h1 h3 hf h2 hup hlk).mono ?_
        rintro e w' ⟨rfl, g, cap, g1, g2, g3, g4, g5⟩
        have hp : putR rows d = ((rows.length : Int), 0, rows ++ [d]) := by simp [putR, hf, hfi, hn]
        have hrow : (rows ++ [d]).length = rows.length + 1 := by simp
        have hc : cellsOf (rows ++ [d]) = cellsOf rows ++ d.cells := by rw [cellsOf_append]; simp [cellsOf]
        rw [PutPost, hp]
        refine ⟨rfl, ⟨m, some ⟨g, 0, none⟩, cap, _, _, by rw [hrow]; exact g1, by rw [hrow, hc]; exact g2, g3, ents_push h4 d cl, .inl h5, .inl h6, ?_⟩, g5.mono ?_⟩
        · intro k hk
          rw [own_eq hk]
          exact g4.imp (h7 g) id
        · rintro i _ (rfl | rfl | h)
          · exact h5
          · exact h6
          · exact h7 i h
  · refine (put_unfit w p m a c rows.length es cl d _ hs h1 h3 rfl hf).mono ?_
    rintro e w' ⟨rfl, hb⟩
    have hp : putR rows d = (0, fitsN rows.length d, rows) := by simp [putR, hf]
    rw [PutPost, hp]
    exact ⟨rfl, (hT.below hb).mono (fun k hk => .inl hk), Fr.of_below hb F⟩

theorem new_any (w : World) : Calls Tryz.prog 16 #[] w fun e w' => e = .returned (.pointer (some ⟨w.heap.size + 1, 0, none⟩)) ∧ Tab w' (w.heap.size + 1) [] (fun k => w.heap.size ≤ k) ∧ Below w.heap.size w w' := by
  have hmm := @run_makeMap Tryz.prog
  go_enter Tryz.func16, Tryz.ntmps16
  go_wp2_with fail
  go_ret
  refine ⟨rfl, ⟨w.heap.size, none, 0, #[], 0, ?_, ⟨rfl, .inl ⟨rfl, rfl⟩⟩, ?_, rfl, by omega, Nat.le_refl _, fun k hk => by simp [Value.ownBlock] at hk⟩, ((Below.refl _ _).alloc (Nat.le_refl _) _).alloc (by simp) _⟩
  · exact (by simp : (w.alloc (Obj.map #[] 0)).heap.size = w.heap.size + 1) ▸ blk_new (w.alloc (Obj.map #[] 0)) _
  · exact blk_alloc (blk_new w _) _

theorem len_tab (w : World) (p : Nat) (rows : List Nd) (F : Nat → Prop) (hT : Tab w p rows F) :
    Calls Tryz.prog 14 #[.pointer (some ⟨p, 0, none⟩)] w fun e w' => e = .returned (.int .i64 rows.length) ∧ w = w' := by
  obtain ⟨m, a, c, es, cl, h1, h2, h3, h4, h5, h6, h7⟩ := hT
  have c0 : w.cell? ⟨p, 0, none⟩ = some (.slice a rows.length c) := (blk_cell h1 0).trans rfl
  have c1 : w.cell? ⟨p, 1, none⟩ = some (.map (some m)) := (blk_cell h1 1).trans rfl
  clear h1 h2 h3 h4 h7
  go_enter Tryz.func14, Tryz.ntmps14
  go_wp2_with (go_at_call 27; refine (alive_some p m _ c1).mono ?_; rintro e w' ⟨rfl, rfl⟩)
  go_ret
  exact ⟨rfl, rfl⟩

def zeroNd : Nd := ⟨0, ⟨#[]⟩, 0, 0⟩
def nodeAt (rows : List Nd) (id : Int) : Nd := if hasB rows.length id then rows.getD id.toNat zeroNd else zeroNd

set_option maxRecDepth 100000 in
theorem node_tab (w : World) (p : Nat) (rows : List Nd) (F : Nat → Prop) (id : Int) (hT : Tab w p rows F) (hl : rows.length ≤ 1024) :
    Calls Tryz.prog 18 #[.pointer (some ⟨p, 0, none⟩), .int .i64 id] w fun e w' => e = .returned (.tuple #[(nodeAt rows id).val, .bool (hasB rows.length id)]) ∧ Below w.heap.size w w' := by
  obtain ⟨m, a, c, es, cl, h1, h2, h3, h4, h5, h6, h7⟩ := hT
  have hp := blk_lt h1
  have c0 : w.cell? ⟨p, 0, none⟩ = some (.slice a rows.length c) := (blk_cell h1 0).trans rfl
  have c1 : w.cell? ⟨p, 1, none⟩ = some (.map (some m)) := (blk_cell h1 1).trans rfl
  clear h1 h3 h4 h7
  cases hb : hasB rows.length id with
  | false =>
    have hn : nodeAt rows id = zeroNd := by simp [nodeAt, hb]
    rw [hn]
    clear hn
    have Hb := Lib.hid hb
    clear hb h2
    go_enter Tryz.func18, Tryz.ntmps18
    go_wp2_with fail
    refine (alive_some p m _ ((World.cell?_alloc_past _ _ _ hp).trans c1)).mono ?_
    rintro e w1 ⟨rfl, rfl⟩
    go_wp2_with fail
    refine (has_any p a _ c id _ ((World.cell?_alloc_past _ _ _ hp).trans c0)).mono ?_
    rintro e w1 ⟨rfl, rfl⟩
    rw [Hb.out]
    go_wp2_with fail
    exact bodyPost_ret (v := .tuple #[zeroNd.val, .bool false]) (by simp [results, Tryz.results18, go_sem, zeroNd, Nd.val]) rfl ⟨rfl, (Below.refl _ _).alloc (Nat.le_refl _) _⟩
  | true =>
    have hb' := hb
    simp only [hasB, Bool.and_eq_true, decide_eq_true_eq] at hb'
    obtain ⟨i, rfl⟩ := Int.eq_ofNat_of_zero_le hb'.1
    have hi : i < rows.length := by omega
    have hn : nodeAt rows i = rows[i] := by simp [nodeAt, hb, hi]
    obtain ⟨g, rfl, hg⟩ := own_cell h2 (by omega)
    have hgl : g < w.heap.size := by obtain ⟨cs, hc⟩ := own_typed h2 g rfl; exact blk_lt hc
    have e0 := hg (i * 4) _ ((cellsOf_get rows i hi 0 (by omega)).trans rfl)
    have e1 := hg (i * 4 + 1) _ ((cellsOf_get rows i hi 1 (by omega)).trans rfl)
    have e2 := hg (i * 4 + 2) _ ((cellsOf_get rows i hi 2 (by omega)).trans rfl)
    have e3 := hg (i * 4 + 3) _ ((cellsOf_get rows i hi 3 (by omega)).trans rfl)
    rw [hn]
    generalize rows[i] = d at *
    generalize rows.length = n at *
    have Hb := Lib.hid hb
    have hi1 : (i : Int) < n := by omega
    clear hb hb' hg h2 hn
    go_enter Tryz.func18, Tryz.ntmps18
    go_wp2_with fail
    refine (alive_some p m _ ((World.cell?_alloc_past _ _ _ hp).trans c1)).mono ?_
    rintro e w1 ⟨rfl, rfl⟩
    go_wp2_with fail
    refine (has_any p _ _ c _ _ ((World.cell?_alloc_past _ _ _ hp).trans c0)).mono ?_
    rintro e w1 ⟨rfl, rfl⟩
    rw [Hb.out]
    go_wp2_with fail
    refine bodyPost_ret (v := .tuple #[d.val, .bool true]) (by simp [results, Tryz.results18, go_sem, Nd.val]) rfl ⟨rfl, (Below.refl _ _).alloc (Nat.le_refl _) _⟩
end Go.Proofs.YtglnmkdlcbkpeaaGreatDoor
