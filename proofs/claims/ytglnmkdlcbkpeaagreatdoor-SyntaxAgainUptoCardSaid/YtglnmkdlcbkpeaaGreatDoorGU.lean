/-
  Package token: what skip, space, sign, word and Scan answer, for texts within Go's reach.
-/
import Derived.Test.YtglnmkdlcbkpeaaGreatDoorGF
import Derived.Test.YtglnmkdlcbkpeaaGreatDoorGT
import Derived.Shelf.Unicode.DecodeAny
import Derived.Shelf.Unicode.DecodeLastEight
import Derived.Test.YtglnmkdlcbkpeaaGreatDoorShelf
import Derived.Test.YtglnmkdlcbkpeaaGreatDoorGR
/- token: the cursor. -/
set_option linter.unusedVariables false
set_option linter.unusedSimpArgs false
namespace Go.Proofs.YtglnmkdlcbkpeaaGreatDoor
open Go.RowKit

/-- A cursor at block g. -/
def Cur (w : World) (g : Nat) (s : ByteArray) (l c : Int) (o : Nat) : Prop := w.heap[g]? = some (.cells #[.string s, .int .i64 l, .int .i64 c, .int .i64 (o : Int)] 119 (0, 0))

theorem here_any (w : World) (g : Nat) (s : ByteArray) (l c : Int) (o : Nat) (h : Cur w g s l c o) (hs : s.size ≤ 140737488355328) (ho : o ≤ s.size) :
    Calls Tryz.prog 60 #[.pointer (some ⟨g, 0, none⟩)] w fun e w' => e = .returned (.string (s.extract o s.size)) ∧ ∃ q, w' = w.drewN q := by
  have c0 : w.cell? ⟨g, 0, none⟩ = some (.string s) := (blk_cell h 0).trans rfl
  have c3 : w.cell? ⟨g, 3, none⟩ = some (.int .i64 (o : Int)) := (blk_cell h 3).trans rfl
  clear h
  have ho1 : (o : Int) ≤ s.size := by omega
  go_enter Tryz.func60, Tryz.ntmps60
  go_wp2_with fail
  go_quiet (fail)
  go_wp2_with fail
  go_ret
  exact ⟨rfl, _, rfl⟩

structure Sp where
  l : Int
  c : Int
  o : Nat

theorem decode_pos (s : ByteArray) (h : 0 < s.size) : 1 ≤ (Lib.decodeGo s).2 := by
  have hz : ¬ s.size = 0 := by omega
  simp only [Lib.decodeGo, hz, if_false]
  unfold Utf8.decode
  simp only []
  repeat' split
  all_goals simp

def stepS (s : ByteArray) (p : Sp) : Sp :=
  let k := (Lib.decodeGo (s.extract p.o s.size)).2
  if s.data.toList.getD p.o 0 = 10 then ⟨p.l + 1, 1, p.o + k⟩ else ⟨p.l, p.c + 1, p.o + k⟩
def skipP (s : ByteArray) (e : Nat) : Nat → Sp → Sp
  | 0, p => p
  | f + 1, p => if p.o < e then skipP s e f (stepS s p) else p
theorem rest_size (s : ByteArray) (o : Nat) (h : o ≤ s.size) : (s.extract o s.size).size = s.size - o := by
  simp

/-- A cursor's bounds. -/
def SpOk (s : ByteArray) (p : Sp) : Prop := 0 ≤ p.l ∧ p.l ≤ p.o + 1 ∧ 0 ≤ p.c ∧ p.c ≤ p.o + 1 ∧ p.o ≤ s.size
theorem stepS_o (s : ByteArray) (p : Sp) (h : p.o < s.size) : p.o < (stepS s p).o ∧ (stepS s p).o ≤ s.size := by
  have h1 := decode_pos (s.extract p.o s.size) (by rw [rest_size s _ (by omega)]; omega)
  have h2 := Lib.decodeGo_le_size (s.extract p.o s.size)
  rw [rest_size s _ (by omega)] at h2
  unfold stepS
  simp only
  split <;> simp only <;> omega
theorem stepS_ok (s : ByteArray) (p : Sp) (h : p.o < s.size) (hp : SpOk s p) : SpOk s (stepS s p) := by
  have h1 := stepS_o s p h
  obtain ⟨a, b, c, d, e⟩ := hp
  unfold stepS at *
  simp only at *
  split at h1
  · rename_i hc
    simp only [hc, if_true]
    simp only at h1
    exact ⟨by simp only; omega, by simp only; omega, by simp only; omega, by simp only; omega, by simp only; omega⟩
  · rename_i hc
    simp only [hc, if_false]
    simp only at h1
    exact ⟨by simp only; omega, by simp only; omega, by simp only; omega, by simp only; omega, by simp only; omega⟩

theorem tabs_fr {w w1 : World} {S : Nat → Prop} (h : Lib.Utf8Tabs 0 1 w) (hf : Fr S w w1) (h0 : ¬ S 0) (h1 : ¬ S 1) : Lib.Utf8Tabs 0 1 w1 := by
  have lt : ∀ {a : Addr} {v : Value}, w.cell? a = some v → a.block < w.heap.size := fun {a v} hc => by
    rcases Nat.lt_or_ge a.block w.heap.size with h' | h'
    · exact h'
    · simp [World.cell?, Array.getElem?_eq_none h'] at hc
  have mv : ∀ {a : Addr} {v : Value}, w.cell? a = some v → ¬ S a.block → w1.cell? a = some v := fun {a v} hc hn => (World.cell?_of_block (hf.block a.block (lt hc) hn)).trans hc
  exact ⟨fun c hc => mv (h.1 c hc) h0, fun i hi => ⟨mv (h.2 i hi).1 h1, mv (h.2 i hi).2 h1⟩⟩
/-- What skip leaves. -/
def SkipPost (w : World) (g : Nat) (s : ByteArray) (p : Sp) (e : Nat) (en : Ending) (w' : World) : Prop :=
  en = .returned (.tuple #[]) ∧ ∃ f q, skipP s e f p = q ∧ e ≤ q.o ∧ SpOk s q ∧ Cur w' g s q.l q.c q.o ∧ Fr (fun k => k = g) w w'

theorem cur_cells {w : World} {g : Nat} {s : ByteArray} {l c : Int} {o : Nat} (h : Cur w g s l c o) : w.cell? ⟨g, 0, none⟩ = some (.string s) ∧ w.cell? ⟨g, 1, none⟩ = some (.int .i64 l) ∧ w.cell? ⟨g, 2, none⟩ = some (.int .i64 c) ∧ w.cell? ⟨g, 3, none⟩ = some (.int .i64 (o : Int)) ∧
    w.frozen? ⟨g, 1, none⟩ = false ∧ w.frozen? ⟨g, 2, none⟩ = false ∧ w.frozen? ⟨g, 3, none⟩ = false :=
  ⟨(blk_cell h 0).trans rfl, (blk_cell h 1).trans rfl, (blk_cell h 2).trans rfl, (blk_cell h 3).trans rfl, blk_frozen h 1, blk_frozen h 2, blk_frozen h 3⟩

set_option maxRecDepth 100000 in
set_option maxHeartbeats 2000000 in
theorem skip_any (w : World) (g : Nat) (s : ByteArray) (p : Sp) (n : Nat) (h : Cur w g s p.l p.c p.o) (hs : s.size ≤ 140737488355328) (hp : SpOk s p) (hn : p.o + n ≤ s.size) (hT : Lib.Utf8Tabs 0 1 w) (hg : ¬ g = 0) (hg1 : ¬ g = 1) :
    Calls Tryz.prog 62 #[.pointer (some ⟨g, 0, none⟩), .int .i64 n] w (SkipPost w g s p (p.o + n)) := by
  obtain ⟨c0, c1, c2, c3, z1, z2, z3⟩ := cur_cells h
  have Hh := Lib.hid h
  have HP := Lib.hid hp
  have HT := Lib.hid hT
  have hpo := hp.2.2.2.2
  clear h hp hT
  go_enter Tryz.func62, Tryz.ntmps62
  go_wp2_with fail
  go_loopw [] (fun wr => ∃ (f : Nat) (q : Sp), (∀ k, skipP s (p.o + n) (f + k) p = skipP s (p.o + n) k q) ∧ SpOk s q ∧ Cur wr g s q.l q.c q.o ∧ Fr (fun k => k = g) w wr ∧ Lib.Utf8Tabs 0 1 wr) (fun wr => match wr.cell? ⟨g, 3, none⟩ with | some (.int _ x) => s.size - x.toNat | _ => 0)
  case atStart => exact ⟨0, p, fun k => by rw [Nat.zero_add], HP.out, Hh.out, Fr.refl _ _, HT.out⟩
  case round =>
    obtain ⟨f, q, hf, hq, hc, hfr, htt⟩ := hrel
    have HF := Lib.hid hf
    have HQ := Lib.hid hq
    have HC := Lib.hid hc
    have HFR := Lib.hid hfr
    have HTT := Lib.hid htt
    obtain ⟨d0, d1, d2, d3, y1, y2, y3⟩ := cur_cells hc
    obtain ⟨b1, b2, b3, b4, b5⟩ := hq
    clear hf hc hfr htt
    by_cases hlt : q.o < p.o + n
    · have hlt1 : (q.o : Int) < (p.o : Int) + (n : Int) := by omega
      have hos : q.o < s.size := by omega
      have hbk := stepS_o s q hos
      have hok := stepS_ok s q hos HQ.out
      have hk1 := decode_pos (s.extract q.o s.size) (by rw [rest_size s _ (by omega)]; omega)
      have hk2 := Lib.decodeGo_le_size (s.extract q.o s.size)
      rw [rest_size s _ (by omega)] at hk2
      have Hok := Lib.hid hok
      have Hst := Lib.hid (rfl : stepS s q = stepS s q)
      have HF2 := Lib.hid (fun k => show skipP s (p.o + n) ((f + 1) + k) p = skipP s (p.o + n) k (stepS s q) by
        rw [Nat.add_assoc, HF.out, Nat.add_comm 1 k, skipP, if_pos hlt])
      have Hmono : Hid (s.size - (stepS s q).o < s.size - q.o) := by show _ < _; omega
      clear hbk hok
      go_wp2_with fail
      refine (here_any wr g s q.l q.c q.o HC.out hs (by omega)).mono ?_
      rintro e w1 ⟨rfl, a1, rfl⟩
      go_wp2_with fail
      refine (Tryz.utf8_DecodeRuneInString _ _ (Utf8Tabs_below HTT.out (below_drewN (Below.refl _ _) a1))).mono ?_
      rintro e w2 ⟨rfl, hb2⟩
      have hb3 : Below wr.heap.size wr w2 := (below_drewN (Below.refl _ _) a1 : Below wr.heap.size wr (wr.drewN a1)).trans hb2
      have hc2 : Cur w2 g s q.l q.c q.o := blk_below' HC.out hb3
      have HC2 := Lib.hid hc2
      have HB3 := Lib.hid hb3
      clear d0 d1 d2 d3 y1 y2 y3 hb2 hb3
      obtain ⟨d0, d1, d2, d3, y1, y2, y3⟩ := cur_cells hc2
      clear hc2
      have hx : s.data.toList.getD q.o 0 = s[q.o] := by
        rw [List.getD_eq_getElem?_getD, List.getElem?_eq_getElem (by simpa using hos)]; rfl
      have hstep : stepS s q = if s[q.o] = 10 then ⟨q.l + 1, 1, q.o + (Lib.decodeGo (s.extract q.o s.size)).2⟩ else ⟨q.l, q.c + 1, q.o + (Lib.decodeGo (s.extract q.o s.size)).2⟩ := by
        unfold stepS
        rw [hx]
      have Hstep := Lib.hid hstep
      clear hx hstep
      generalize (Lib.decodeGo (s.extract q.o s.size)).2 = kk at *
      have ho0 : (0 : Int) ≤ (q.o : Int) := by omega
      have hos1 : (q.o : Int) < (s.size : Int) := by omega
      by_cases h10 : s[q.o] = 10
      · have hb10 : ((s[q.o].toNat : Int) == 10) = true := by rw [h10]; rfl
        go_wp2_with fail
        go_quiet (fail)
        go_wp2_with fail
        rw [if_pos h10] at Hstep
        have ho2 : ((q.o + kk : Nat) : Int) = (q.o : Int) + (kk : Int) := by omega
        refine ⟨⟨f + 1, stepS s q, HF2.out, Hok.out, ?_, ?_, ?_⟩, ?_⟩
        · rw [Hstep.out]
          simp only [Cur]
          rw [ho2]
          exact blk_set (blk_set (blk_set (blk_set (show (w2.drewN _).heap[g]? = _ from HC2.out) 1 _) 2 _) 2 _) 3 _
        · exact (((((HFR.out.trans (Fr.of_below HB3.out (fun k => k = g)) (fun _ _ h => h)).drewN _).setCell _ _ (fun _ => rfl)).setCell _ _ (fun _ => rfl)).setCell _ _ (fun _ => rfl)).setCell _ _ (fun _ => rfl)
        · exact tabs_fr HTT.out ((((((Fr.of_below HB3.out (fun k => k = g)).drewN _).setCell _ _ (fun _ => rfl)).setCell _ _ (fun _ => rfl)).setCell _ _ (fun _ => rfl)).setCell _ _ (fun _ => rfl)) (Ne.symm hg) (Ne.symm hg1)
        · have hm := Hmono.out
          rw [Hstep.out] at hm
          simp only at hm
          rw [blk_cell (blk_set (blk_set (blk_set (blk_set (show (w2.drewN _).heap[g]? = _ from HC2.out) 1 _) 2 _) 2 _) 3 _) 3, (blk_cell HC.out 3 : wr.cell? ⟨g, 3, none⟩ = _)]
          simp
          omega
      · have hb10 : ((s[q.o].toNat : Int) == 10) = false := by
          rw [beq_eq_false_iff_ne]
          intro h
          apply h10
          have : s[q.o].toNat = 10 := by omega
          exact UInt8.toNat_inj.1 this
        go_wp2_with fail
        go_quiet (fail)
        go_wp2_with fail
        rw [if_neg h10] at Hstep
        have ho2 : ((q.o + kk : Nat) : Int) = (q.o : Int) + (kk : Int) := by omega
        refine ⟨⟨f + 1, stepS s q, HF2.out, Hok.out, ?_, ?_, ?_⟩, ?_⟩
        · rw [Hstep.out]
          simp only [Cur]
          rw [ho2]
          exact blk_set (blk_set (show (w2.drewN _).heap[g]? = _ from HC2.out) 2 _) 3 _
        · exact (((HFR.out.trans (Fr.of_below HB3.out (fun k => k = g)) (fun _ _ h => h)).drewN _).setCell _ _ (fun _ => rfl)).setCell _ _ (fun _ => rfl)
        · exact tabs_fr HTT.out ((((Fr.of_below HB3.out (fun k => k = g)).drewN _).setCell _ _ (fun _ => rfl)).setCell _ _ (fun _ => rfl)) (Ne.symm hg) (Ne.symm hg1)
        · have hm := Hmono.out
          rw [Hstep.out] at hm
          simp only at hm
          rw [blk_cell (blk_set (blk_set (show (w2.drewN _).heap[g]? = _ from HC2.out) 2 _) 3 _) 3, (blk_cell HC.out 3 : wr.cell? ⟨g, 3, none⟩ = _)]
          simp
          omega
    · go_wp2_with fail
      go_end0
      exact ⟨rfl, f, q, by have := HF.out 0; rw [Nat.add_zero] at this; rw [this]; rfl, by omega, HQ.out, HC.out, HFR.out⟩
end Go.Proofs.YtglnmkdlcbkpeaaGreatDoor
/- token: blanks and comments. -/
set_option linter.unusedVariables false
set_option linter.unusedSimpArgs false
namespace Go.Proofs.YtglnmkdlcbkpeaaGreatDoor
open Go.RowKit

theorem skipP_more (s : ByteArray) (e : Nat) : ∀ (f k : Nat) (p : Sp), e ≤ (skipP s e f p).o → skipP s e (f + k) p = skipP s e f p := by
  intro f
  induction f with
  | zero =>
    intro k p h
    simp only [skipP] at h
    rw [Nat.zero_add]
    cases k with
    | zero => rfl
    | succ k => simp only [skipP]; rw [if_neg (by omega)]
  | succ f ih =>
    intro k p h
    rw [show f + 1 + k = (f + k) + 1 from by omega]
    simp only [skipP] at h ⊢
    by_cases hc : p.o < e
    · rw [if_pos hc] at h
      rw [if_pos hc, if_pos hc, ih k _ h]
    · rw [if_neg hc, if_neg hc]
theorem skipP_ends (s : ByteArray) (e : Nat) (he : e ≤ s.size) : ∀ (f : Nat) (p : Sp), e ≤ p.o + f → e ≤ (skipP s e f p).o := by
  intro f
  induction f with
  | zero => intro p h; simp only [skipP]; omega
  | succ f ih =>
    intro p h
    simp only [skipP]
    by_cases hc : p.o < e
    · rw [if_pos hc]
      have := (stepS_o s p (by omega)).1
      exact ih _ (by omega)
    · rw [if_neg hc]; omega
/-- skip, by as many steps as may be. -/
def skipQ (s : ByteArray) (p : Sp) (n : Nat) : Sp := skipP s (p.o + n) n p
theorem skipQ_eq (s : ByteArray) (p : Sp) (n f : Nat) (hn : p.o + n ≤ s.size) (h : p.o + n ≤ (skipP s (p.o + n) f p).o) : skipP s (p.o + n) f p = skipQ s p n := by
  have h1 := skipP_more s (p.o + n) f n p h
  have h2 := skipP_more s (p.o + n) n f p (skipP_ends s _ hn n p (by omega))
  rw [← h1, Nat.add_comm f n, h2, skipQ]

/-- What skip leaves, as a function. -/
theorem skip_fn (w : World) (g : Nat) (s : ByteArray) (p : Sp) (n : Nat) (h : Cur w g s p.l p.c p.o) (hs : s.size ≤ 140737488355328) (hp : SpOk s p) (hn : p.o + n ≤ s.size) (hT : Lib.Utf8Tabs 0 1 w) (hg : ¬ g = 0) (hg1 : ¬ g = 1) :
    Calls Tryz.prog 62 #[.pointer (some ⟨g, 0, none⟩), .int .i64 n] w fun e w' => e = .returned (.tuple #[]) ∧
      Cur w' g s (skipQ s p n).l (skipQ s p n).c (skipQ s p n).o ∧ SpOk s (skipQ s p n) ∧ p.o + n ≤ (skipQ s p n).o ∧ Fr (fun k => k = g) w w' := by
  refine (skip_any w g s p n h hs hp hn hT hg hg1).mono ?_
  rintro e w' ⟨rfl, f, q, hf, he, hok, hc, hfr⟩
  subst hf
  have hq := skipQ_eq s p n f hn he
  rw [hq] at he hok hc
  exact ⟨rfl, hc, hok, he, hfr⟩

/-- What stands next: a blank, a comment; how far it goes. -/
def blankN (l : List UInt8) : Option Nat :=
  match l with
  | [] => none
  | c :: _ => if c = 32 ∨ c = 9 ∨ c = 10 ∨ c = 13 then some 1
    else if c = 35 then some (if Lib.indexByte l 10 < 0 then l.length else (Lib.indexByte l 10).toNat)
    else none
def spaceP (s : ByteArray) : Nat → Sp → Sp
  | 0, p => p
  | f + 1, p => match blankN (s.data.toList.drop p.o) with
    | some n => spaceP s f (skipQ s p n)
    | none => p

theorem drop_rest (s : ByteArray) (o : Nat) (h : o < s.size) : s.data.toList.drop o = s[o] :: s.data.toList.drop (o + 1) := List.drop_eq_getElem_cons (by simpa using h)
theorem rest_list (s : ByteArray) (o : Nat) : (s.extract o s.size).data.toList = s.data.toList.drop o := by
  simp only [ByteArray.data_extract, Array.toList_extract, List.extract_eq_take_drop]
  exact List.take_of_length_le (by simp)
theorem rest_head (s : ByteArray) (o : Nat) (h : o < s.size) (h' : 0 < (s.extract o s.size).size) : (s.extract o s.size)[0] = s[o] := by
  have h1 := rest_list s o
  have h2 : (s.extract o s.size).data.toList[0]? = some (s.extract o s.size)[0] := by
    rw [List.getElem?_eq_getElem (by simpa using h')]; rfl
  rw [h1, drop_rest s o h] at h2
  simpa using h2.symm

/-- What space leaves. -/
def SpacePost (w : World) (g : Nat) (s : ByteArray) (p : Sp) (en : Ending) (w' : World) : Prop :=
  en = .returned (.tuple #[]) ∧ ∃ f q, (∀ k, spaceP s (f + k + 1) p = q) ∧ blankN (s.data.toList.drop q.o) = none ∧ p.o ≤ q.o ∧ SpOk s q ∧ Cur w' g s q.l q.c q.o ∧ Fr (fun k => k = g) w w'

set_option maxRecDepth 100000 in
set_option maxHeartbeats 2000000 in
theorem space_any (w : World) (g : Nat) (s : ByteArray) (p : Sp) (h : Cur w g s p.l p.c p.o) (hs : s.size ≤ 140737488355328) (hp : SpOk s p) (hT : Lib.Utf8Tabs 0 1 w) (hg : ¬ g = 0) (hg1 : ¬ g = 1) :
    Calls Tryz.prog 59 #[.pointer (some ⟨g, 0, none⟩)] w (SpacePost w g s p) := by
  have Hh := Lib.hid h
  have HP := Lib.hid hp
  have HT := Lib.hid hT
  have hpo := hp.2.2.2.2
  clear h hp hT
  go_enter Tryz.func59, Tryz.ntmps59
  go_step3
  go_wp2_with fail
  go_step3
  go_wp2_with fail
  refine (here_any w g s p.l p.c p.o Hh.out hs hpo).mono ?_
  rintro e w1 ⟨rfl, a1, rfl⟩
  go_wp2_with fail
  go_loopw [2] (fun v wr => ∃ (f : Nat) (q : Sp), v = .string (s.extract q.o s.size) ∧ (∀ k, spaceP s (f + k) p = spaceP s k q) ∧ p.o ≤ q.o ∧ SpOk s q ∧ Cur wr g s q.l q.c q.o ∧ Fr (fun k => k = g) w wr ∧ Lib.Utf8Tabs 0 1 wr) (fun _ wr => match wr.cell? ⟨g, 3, none⟩ with | some (.int _ x) => s.size - x.toNat | _ => 0)
  case atStart => exact ⟨0, p, rfl, fun k => by rw [Nat.zero_add], Nat.le_refl _, HP.out, Hh.out, (Fr.refl _ _).drewN _, Utf8Tabs_below HT.out (below_drewN (Below.refl _ _) _)⟩
  case round =>
    obtain ⟨f, q, rfl, hf, hle, hq, hc, hfr, htt⟩ := hrel
    have HF := Lib.hid hf
    have HQ := Lib.hid hq
    have HC := Lib.hid hc
    have HFR := Lib.hid hfr
    have HTT := Lib.hid htt
    have hqs := hq.2.2.2.2
    clear hf hc hfr htt hq
    by_cases hend : q.o < s.size
    · have hb := drop_rest s q.o hend
      have hn1 : (s.extract q.o s.size).size = s.size - q.o := rest_size s _ hqs
      have h0 : 0 < (s.extract q.o s.size).size := by omega
      have hn0 : ¬ (s.extract q.o s.size).toList = [] := by rw [toList_nil]; omega
      have hn2 : (s.extract q.o s.size).toList.isEmpty = false := by rw [List.isEmpty_eq_false_iff]; exact hn0
      have hR := rest_head s q.o hend h0
      have hlist := rest_list s q.o
      have HB := Lib.hid hb
      have Hlist := Lib.hid hlist
      have hRl : (s.extract q.o s.size).size ≤ s.size := by omega
      generalize s.extract q.o s.size = R at *
      have h01 : (0 : Int) < (R.size : Int) := by omega
      have Hn1 := Lib.hid hn1
      clear hb hlist hn1
      by_cases hbl : s[q.o] = 32 ∨ s[q.o] = 9 ∨ s[q.o] = 10 ∨ s[q.o] = 13
      · have hN : blankN (s.data.toList.drop q.o) = some 1 := by rw [HB.out]; simp [blankN, hbl]
        have HN := Lib.hid hN
        have hsk : Calls Tryz.prog 62 #[.pointer (some ⟨g, 0, none⟩), .int .i64 1] wr _ := skip_fn wr g s q 1 HC.out hs HQ.out (by omega) HTT.out hg hg1
        have Hsk := Lib.hid hsk
        have HF2 := Lib.hid (fun k => show spaceP s ((f + 1) + k) p = spaceP s k (skipQ s q 1) by
          rw [Nat.add_assoc, HF.out, Nat.add_comm 1 k, spaceP, hN])
        clear hN hsk
        rcases hbl with hbl | hbl | hbl | hbl
        all_goals
          have hR0 : (R[0].toNat : Int) = (s[q.o].toNat : Int) := by rw [hR]
          rw [hbl] at hR0
          clear hR hbl
          go_wp2_with fail
          refine Hsk.out.mono ?_
          rintro e w2 ⟨rfl, hc2, hok2, ho2, hfr2⟩
          have HC2 := Lib.hid hc2
          have HO2 := Lib.hid hok2
          have HFR2 := Lib.hid hfr2
          clear hc2 hok2 hfr2
          go_wp2_with fail
          refine (here_any w2 g s _ _ _ HC2.out hs HO2.out.2.2.2.2).mono ?_
          rintro e w3 ⟨rfl, a3, rfl⟩
          go_wp2_with fail
          refine ⟨⟨f + 1, skipQ s q 1, rfl, HF2.out, by omega, HO2.out, HC2.out, (HFR.out.trans HFR2.out (fun _ _ h => h)).drewN _, Utf8Tabs_below (tabs_fr HTT.out HFR2.out (Ne.symm hg) (Ne.symm hg1)) (below_drewN (Below.refl _ _) _)⟩, ?_⟩
          have k1 : (w2.drewN a3).cell? ⟨g, 3, none⟩ = some (.int .i64 ((skipQ s q 1).o : Int)) := (blk_cell (show (w2.drewN a3).heap[g]? = _ from HC2.out) 3).trans rfl
          rw [k1, (blk_cell HC.out 3 : wr.cell? ⟨g, 3, none⟩ = _)]
          have := HO2.out.2.2.2.2
          simp
          omega
      · by_cases hh : s[q.o] = 35
        · have hR0 : (R[0].toNat : Int) = (s[q.o].toNat : Int) := by rw [hR]
          rw [hh] at hR0
          have hix : Lib.indexByte R.data.toList 10 = Lib.indexByte (s.data.toList.drop q.o) 10 := by rw [Hlist.out]
          have hlen : (s.data.toList.drop q.o).length = R.size := by rw [← Hlist.out]; simp
          have hN : blankN (s.data.toList.drop q.o) = some (if Lib.indexByte R.data.toList 10 < 0 then R.size else (Lib.indexByte R.data.toList 10).toNat) := by
            rw [hix, ← hlen, HB.out]
            simp only [blankN, hh]
            rw [if_neg (by decide), if_pos trivial]
          have hge := Lib.indexByte_ge R.data.toList 10
          have hin : 0 ≤ Lib.indexByte R.data.toList 10 → (Lib.indexByte R.data.toList 10).toNat ≤ R.size ∧ 1 ≤ Lib.indexByte R.data.toList 10 := by
            intro h0
            obtain ⟨o, ho⟩ := Int.eq_ofNat_of_zero_le h0
            obtain ⟨h1, h2⟩ := Lib.indexByte_some ho
            have h3 := (List.getElem?_eq_some_iff.1 h1).1
            rw [Hlist.out, hlen] at h3
            rw [ho]
            refine ⟨by simp; omega, ?_⟩
            rcases Nat.eq_zero_or_pos o with rfl | hp
            · exfalso
              rw [Hlist.out, HB.out, hh] at h1
              simp at h1
            · omega
          have Hin := Lib.hid hin
          have HN := Lib.hid hN
          have hixb := fun W => Tryz.strings_IndexByte R 10 W
          have Hixb := Lib.hid hixb
          clear hN hin hix hlen hR hbl hh hixb
          go_wp2_with fail
          refine (Hixb.out _).mono ?_
          rintro e wx ⟨he, rfl⟩
          have he' : e = .returned (.int .i64 (Lib.indexByte R.data.toList 10)) := he
          subst he'
          clear he
          generalize hI : Lib.indexByte R.data.toList 10 = I at *
          clear hI
          have hfin : ∀ (m : Nat), (if I < 0 then R.size else I.toNat) = m → 0 < m → m ≤ R.size → Hid (blankN (s.data.toList.drop q.o) = some m ∧ q.o + m ≤ s.size ∧ 0 < m) := by
            intro m hm h0 h1
            have := Hn1.out
            exact ⟨by rw [HN.out, hm], by omega, h0⟩
          have Hfin := Lib.hid hfin
          clear hfin
          by_cases hI0 : I < 0
          · have HM := Hfin.out R.size (by rw [if_pos hI0]) h0 (Nat.le_refl _)
            have hsk := skip_fn wx g s q R.size HC.out hs HQ.out HM.2.1 HTT.out hg hg1
            have Hsk := Lib.hid hsk
            have HF2 := Lib.hid (fun k => show spaceP s ((f + 1) + k) p = spaceP s k (skipQ s q R.size) by
              rw [Nat.add_assoc, HF.out, Nat.add_comm 1 k, spaceP, HM.1])
            have hm0 := HM.2.2
            clear hsk HM
            skip
            go_wp2_with fail
            refine Hsk.out.mono ?_
            rintro e w2 ⟨rfl, hc2, hok2, ho2, hfr2⟩
            have HC2 := Lib.hid hc2
            have HO2 := Lib.hid hok2
            have HFR2 := Lib.hid hfr2
            clear hc2 hok2 hfr2
            go_wp2_with fail
            refine (here_any w2 g s _ _ _ HC2.out hs HO2.out.2.2.2.2).mono ?_
            rintro e w3 ⟨rfl, a3, rfl⟩
            go_wp2_with fail
            refine ⟨⟨f + 1, skipQ s q R.size, rfl, HF2.out, by omega, HO2.out, HC2.out, (HFR.out.trans HFR2.out (fun _ _ h => h)).drewN _, Utf8Tabs_below (tabs_fr HTT.out HFR2.out (Ne.symm hg) (Ne.symm hg1)) (below_drewN (Below.refl _ _) _)⟩, ?_⟩
            have k1 : (w2.drewN a3).cell? ⟨g, 3, none⟩ = some (.int .i64 ((skipQ s q R.size).o : Int)) := (blk_cell (show (w2.drewN a3).heap[g]? = _ from HC2.out) 3).trans rfl
            rw [k1, (blk_cell HC.out 3 : wx.cell? ⟨g, 3, none⟩ = _)]
            have := HO2.out.2.2.2.2
            simp
            omega
          · have hI1 := Hin.out (by omega)
            obtain ⟨m, rfl⟩ : ∃ m : Nat, I = m := Int.eq_ofNat_of_zero_le (by omega)
            have HM := Hfin.out m (by rw [if_neg hI0]; simp) (by omega) (by have := hI1.1; simp at this; exact this)
            have hsk := skip_fn wx g s q m HC.out hs HQ.out HM.2.1 HTT.out hg hg1
            have Hsk := Lib.hid hsk
            have HF2 := Lib.hid (fun k => show spaceP s ((f + 1) + k) p = spaceP s k (skipQ s q m) by
              rw [Nat.add_assoc, HF.out, Nat.add_comm 1 k, spaceP, HM.1])
            have hm0 := HM.2.2
            clear hsk HM
            clear hI1
            go_wp2_with fail
            refine Hsk.out.mono ?_
            rintro e w2 ⟨rfl, hc2, hok2, ho2, hfr2⟩
            have HC2 := Lib.hid hc2
            have HO2 := Lib.hid hok2
            have HFR2 := Lib.hid hfr2
            clear hc2 hok2 hfr2
            go_wp2_with fail
            refine (here_any w2 g s _ _ _ HC2.out hs HO2.out.2.2.2.2).mono ?_
            rintro e w3 ⟨rfl, a3, rfl⟩
            go_wp2_with fail
            refine ⟨⟨f + 1, skipQ s q m, rfl, HF2.out, by omega, HO2.out, HC2.out, (HFR.out.trans HFR2.out (fun _ _ h => h)).drewN _, Utf8Tabs_below (tabs_fr HTT.out HFR2.out (Ne.symm hg) (Ne.symm hg1)) (below_drewN (Below.refl _ _) _)⟩, ?_⟩
            have k1 : (w2.drewN a3).cell? ⟨g, 3, none⟩ = some (.int .i64 ((skipQ s q m).o : Int)) := (blk_cell (show (w2.drewN a3).heap[g]? = _ from HC2.out) 3).trans rfl
            rw [k1, (blk_cell HC.out 3 : wx.cell? ⟨g, 3, none⟩ = _)]
            have := HO2.out.2.2.2.2
            simp
            omega
        · have hN : blankN (s.data.toList.drop q.o) = none := by
            rw [HB.out]
            simp [blankN, hh]
            simpa using hbl
          have HN := Lib.hid hN
          have HF2 := Lib.hid (fun k => show spaceP s (f + k + 1) p = q by rw [show f + k + 1 = f + (k + 1) from rfl, HF.out, spaceP, hN])
          have hne : ∀ m : UInt8, s[q.o] ≠ m → ((s[q.o].toNat : Int) == (m.toNat : Int)) = false := fun m h => by
            rw [beq_eq_false_iff_ne]
            intro e
            exact h (UInt8.toNat_inj.1 (by omega))
          have hR0 : (R[0].toNat : Int) = (s[q.o].toNat : Int) := by rw [hR]
          have t1 : ((s[q.o].toNat : Int) == 32) = false := hne 32 (fun e => hbl (.inl e))
          have t2 : ((s[q.o].toNat : Int) == 9) = false := hne 9 (fun e => hbl (.inr (.inl e)))
          have t3 : ((s[q.o].toNat : Int) == 10) = false := hne 10 (fun e => hbl (.inr (.inr (.inl e))))
          have t4 : ((s[q.o].toNat : Int) == 13) = false := hne 13 (fun e => hbl (.inr (.inr (.inr e))))
          have t5 : ((s[q.o].toNat : Int) == 35) = false := hne 35 hh
          clear hR hbl hh hne hN
          go_wp2_with fail
          show bodyPost Tryz.prog Tryz.f59 (SpacePost w g s p) Exit.normal _ _
          go_end0
          exact ⟨rfl, f, q, HF2.out, HN.out, hle, HQ.out, HC.out, HFR.out⟩
    · have hqe : q.o = s.size := by omega
      have hN : blankN (s.data.toList.drop q.o) = none := by
        rw [List.drop_of_length_le (by simp; show s.size ≤ q.o; omega)]; rfl
      have HN := Lib.hid hN
      have HF2 := Lib.hid (fun k => show spaceP s (f + k + 1) p = q by rw [show f + k + 1 = f + (k + 1) from rfl, HF.out, spaceP, hN])
      have hn0 : (s.extract q.o s.size).toList = [] := by rw [toList_nil, rest_size s _ hqs]; omega
      have hn2 : (s.extract q.o s.size).toList.isEmpty = true := by rw [hn0]; rfl
      generalize s.extract q.o s.size = R at *
      clear hN hqe
      go_wp2_with fail
      show bodyPost Tryz.prog Tryz.f59 (SpacePost w g s p) Exit.normal _ _
      go_end0
      exact ⟨rfl, f, q, HF2.out, HN.out, hle, HQ.out, HC.out, HFR.out⟩
end Go.Proofs.YtglnmkdlcbkpeaaGreatDoor
/- token: signs. -/
set_option linter.unusedVariables false
set_option linter.unusedSimpArgs false
namespace Go.Proofs.YtglnmkdlcbkpeaaGreatDoor
open Go.RowKit

def sgB : List ByteArray := [⟨#[60, 45, 62]⟩, ⟨#[60, 61]⟩, ⟨#[61, 62]⟩, ⟨#[45, 62]⟩, ⟨#[124, 45]⟩, ⟨#[126]⟩, ⟨#[38]⟩, ⟨#[124]⟩, ⟨#[40]⟩, ⟨#[41]⟩, ⟨#[91]⟩, ⟨#[93]⟩, ⟨#[123]⟩, ⟨#[125]⟩, ⟨#[44]⟩, ⟨#[46]⟩, ⟨#[58]⟩, ⟨#[59]⟩, ⟨#[61]⟩, ⟨#[47]⟩]
def sgCells : Array Value := (sgB.map Value.string).toArray
theorem sg_index (k : Nat) (hk : k < 20) (w : World) : (Instr.index 138 (.agg sgCells) (.int .i64 (k : Int))).run Tryz.prog w = .ok (.string (sgB.getD k ⟨#[]⟩)) w :=
  match k, hk with
  | 0, _ => by kernel_rfl
  | 1, _ => by kernel_rfl
  | 2, _ => by kernel_rfl
  | 3, _ => by kernel_rfl
  | 4, _ => by kernel_rfl
  | 5, _ => by kernel_rfl
  | 6, _ => by kernel_rfl
  | 7, _ => by kernel_rfl
  | 8, _ => by kernel_rfl
  | 9, _ => by kernel_rfl
  | 10, _ => by kernel_rfl
  | 11, _ => by kernel_rfl
  | 12, _ => by kernel_rfl
  | 13, _ => by kernel_rfl
  | 14, _ => by kernel_rfl
  | 15, _ => by kernel_rfl
  | 16, _ => by kernel_rfl
  | 17, _ => by kernel_rfl
  | 18, _ => by kernel_rfl
  | 19, _ => by kernel_rfl
  | k + 20, h => absurd h (by omega)

def runeSign (r : Nat) (n : Nat) : ByteArray × Nat :=
  if r = 172 then ((⟨#[126]⟩ : ByteArray), n) else if r = 8743 then ((⟨#[38]⟩ : ByteArray), n) else if r = 8744 then ((⟨#[124]⟩ : ByteArray), n) else if r = 8594 then ((⟨#[45, 62]⟩ : ByteArray), n) else if r = 8596 then ((⟨#[60, 45, 62]⟩ : ByteArray), n) else if r = 8866 then ((⟨#[124, 45]⟩ : ByteArray), n) else if r = 8804 then ((⟨#[60, 61]⟩ : ByteArray), n) else (⟨#[]⟩, 0)
def isPre (s x : ByteArray) : Bool := Lib.hasPrefix s.data.toList x.data.toList
def signP (s : ByteArray) : ByteArray × Nat :=
  match sgB.find? (isPre s) with
  | some x => (x, x.size)
  | none => runeSign (Lib.decodeGo s).1 (Lib.decodeGo s).2

theorem sg_at (s : ByteArray) (k : Nat) (h : k < 20) : (sgB.drop k).find? (isPre s) = if isPre s (sgB.getD k ⟨#[]⟩) then some (sgB.getD k ⟨#[]⟩) else (sgB.drop (k + 1)).find? (isPre s) := by
  rw [List.drop_eq_getElem_cons (show k < sgB.length from h), List.find?_cons, List.getD_eq_getElem?_getD, List.getElem?_eq_getElem (show k < sgB.length from h), Option.getD_some]
  split <;> simp_all

set_option maxRecDepth 100000 in
set_option maxHeartbeats 2000000 in
theorem sign_any (s : ByteArray) (w : World) (hT : Lib.Utf8Tabs 0 1 w) :
    Calls Tryz.prog 78 #[.string s] w fun e w' => e = .returned (.tuple #[.string (signP s).1, .int .i64 (signP s).2]) ∧ Below w.heap.size w w' := by
  have HT := Lib.hid hT
  clear hT
  go_enter Tryz.func78, Tryz.ntmps78
  go_wp2_with fail
  generalize hA : Value.agg _ = A
  have hA' : A = .agg sgCells := hA.symm
  have HA := Lib.hid hA'
  clear hA hA'
  go_loop [9] (fun i => ∃ k : Nat, k ≤ 20 ∧ i = .int .i64 k ∧ sgB.find? (isPre s) = (sgB.drop k).find? (isPre s)) (fun i => 20 - (intOf i).toNat)
  case atStart => exact ⟨0, by omega, rfl, rfl⟩
  case round =>
    obtain ⟨k, hk, rfl, hw⟩ := hrel
    have Hw := Lib.hid hw
    clear hw
    by_cases hlt : k < 20
    · have hlt1 : (k : Int) < 20 := by omega
      have hix := sg_index k hlt
      rw [← HA.out] at hix
      have Hs := Lib.hid (Hw.out.trans (sg_at s k hlt))
      generalize sgB.getD k ⟨#[]⟩ = x at *
      cases hp : isPre s x with
      | true =>
        have hf : signP s = (x, x.size) := by simp only [signP]; rw [Hs.out, hp]; rfl
        have Hf := Lib.hid hf
        have Hp := Lib.hid hp
        clear hp hf
        go_wp2_with (go_at_call 87; refine (Tryz.strings_HasPrefix s x _).mono ?_; rintro e w' ⟨he, rfl⟩; have he' := he.trans (show _ = Ending.returned (.bool true) by rw [show Lib.hasPrefix s.data.toList x.data.toList = true from Hp.out]); subst he'; clear he)
        go_ret2
        exact ⟨by rw [Hf.out]; rfl, Below.refl _ _⟩
      | false =>
        have Hs2 := Lib.hid (show sgB.find? (isPre s) = (sgB.drop (k + 1)).find? (isPre s) by rw [Hs.out, hp]; rfl)
        have Hp := Lib.hid hp
        clear hp
        go_wp2_with (go_at_call 87; refine (Tryz.strings_HasPrefix s x _).mono ?_; rintro e w' ⟨he, rfl⟩; have he' := he.trans (show _ = Ending.returned (.bool false) by rw [show Lib.hasPrefix s.data.toList x.data.toList = false from Hp.out]); subst he'; clear he)
        exact ⟨⟨k + 1, by omega, by go_num, Hs2.out⟩, by simp [intOf]; omega⟩
    · have hlt1 : ¬ (k : Int) < 20 := by omega
      have hn : sgB.find? (isPre s) = none := by rw [Hw.out, List.drop_of_length_le (show sgB.length ≤ k by show 20 ≤ k; omega)]; rfl
      have hf : signP s = runeSign (Lib.decodeGo s).1 (Lib.decodeGo s).2 := by simp only [signP]; rw [hn]
      have Hf := Lib.hid hf
      clear hf hn Hw
      have hd := Tryz.utf8_DecodeRuneInString s w HT.out
      generalize (Lib.decodeGo s).1 = r at *
      generalize (Lib.decodeGo s).2 = n at *
      have Hd := Lib.hid hd
      clear hd
      have hq : ∀ m : Nat, ((r : Int) == (m : Int)) = decide (r = m) := fun m => by
        rw [Bool.eq_iff_iff]; simp; omega
      by_cases r0 : r = 172
      · subst r0
        go_wp2_with (go_at_call 77; refine Hd.out.mono ?_; rintro e w' ⟨rfl, hb⟩)
        go_ret2
        exact ⟨by rw [Hf.out]; rfl, hb⟩
      have q0 : ((r : Int) == 172) = false := by rw [beq_eq_false_iff_ne]; omega
      by_cases r1 : r = 8743
      · subst r1
        go_wp2_with (go_at_call 77; refine Hd.out.mono ?_; rintro e w' ⟨rfl, hb⟩)
        go_ret2
        exact ⟨by rw [Hf.out]; rfl, hb⟩
      have q1 : ((r : Int) == 8743) = false := by rw [beq_eq_false_iff_ne]; omega
      by_cases r2 : r = 8744
      · subst r2
        go_wp2_with (go_at_call 77; refine Hd.out.mono ?_; rintro e w' ⟨rfl, hb⟩)
        go_ret2
        exact ⟨by rw [Hf.out]; rfl, hb⟩
      have q2 : ((r : Int) == 8744) = false := by rw [beq_eq_false_iff_ne]; omega
      by_cases r3 : r = 8594
      · subst r3
        go_wp2_with (go_at_call 77; refine Hd.out.mono ?_; rintro e w' ⟨rfl, hb⟩)
        go_ret2
        exact ⟨by rw [Hf.out]; rfl, hb⟩
      have q3 : ((r : Int) == 8594) = false := by rw [beq_eq_false_iff_ne]; omega
      by_cases r4 : r = 8596
      · subst r4
        go_wp2_with (go_at_call 77; refine Hd.out.mono ?_; rintro e w' ⟨rfl, hb⟩)
        go_ret2
        exact ⟨by rw [Hf.out]; rfl, hb⟩
      have q4 : ((r : Int) == 8596) = false := by rw [beq_eq_false_iff_ne]; omega
      by_cases r5 : r = 8866
      · subst r5
        go_wp2_with (go_at_call 77; refine Hd.out.mono ?_; rintro e w' ⟨rfl, hb⟩)
        go_ret2
        exact ⟨by rw [Hf.out]; rfl, hb⟩
      have q5 : ((r : Int) == 8866) = false := by rw [beq_eq_false_iff_ne]; omega
      by_cases r6 : r = 8804
      · subst r6
        go_wp2_with (go_at_call 77; refine Hd.out.mono ?_; rintro e w' ⟨rfl, hb⟩)
        go_ret2
        exact ⟨by rw [Hf.out]; rfl, hb⟩
      have q6 : ((r : Int) == 8804) = false := by rw [beq_eq_false_iff_ne]; omega
      have hf : runeSign r n = (⟨#[]⟩, 0) := by simp [runeSign, r0, r1, r2, r3, r4, r5, r6]
      have Hf2 := Lib.hid (Hf.out.trans hf)
      clear hf hq r0 r1 r2 r3 r4 r5 r6
      go_wp2_with (go_at_call 77; refine Hd.out.mono ?_; rintro e w' ⟨rfl, hb⟩)
      go_ret2
      exact ⟨by rw [Hf2.out]; rfl, hb⟩
end Go.Proofs.YtglnmkdlcbkpeaaGreatDoor
/- token: the token that is next. -/
set_option linter.unusedVariables false
set_option linter.unusedSimpArgs false
namespace Go.Proofs.YtglnmkdlcbkpeaaGreatDoor
open Go.RowKit

def noText : ByteArray := ⟨#[]⟩
/-- How many digits stand at the beginning; what they say; do they say no number? -/
def digN (s : ByteArray) : Nat := runP (fun c => decide (isDig c)) s.data.toList
def numV (s : ByteArray) : Int := match Lib.atoiAll (s.extract 0 (digN s)).data.toList with | .ok v => v | _ => 1000000000
def numBad (s : ByteArray) : Bool :=
  (decide (1 < digN s) && decide (s.data.toList.getD 0 0 = 48)) || decide (999999999 < numV s) || (decide (digN s < s.size) && decide (isTail (s.data.toList.getD (digN s) 0).toNat))
/-- A token without its number and its spot: its kind and its text; how many bytes; its error. None: nothing is there. -/
def wordP (s : ByteArray) : Option ((Int × ByteArray) × Nat × Int) :=
  match s.data.toList.head? with
  | none => none
  | some c =>
    if isLtr c.toNat then (if 31 < runP (fun c => decide (isTail c)) s.data.toList then some ((0, noText), 0, 22) else some ((1, s.extract 0 (runP (fun c => decide (isTail c)) s.data.toList)), runP (fun c => decide (isTail c)) s.data.toList, 0))
    else if isDig c.toNat then (if numBad s then some ((0, noText), 0, 21) else some ((2, noText), digN s, 0))
    else if (Lib.decodeGo s).1 = 8868 then some ((1, ⟨#[116, 114, 117, 101]⟩), (Lib.decodeGo s).2, 0)
    else if (Lib.decodeGo s).1 = 8869 then some ((1, ⟨#[102, 97, 108, 115, 101]⟩), (Lib.decodeGo s).2, 0)
    else if (signP s).2 = 0 then some ((0, noText), 0, 20)
    else some ((3, (signP s).1), (signP s).2, 0)
/-- A token's number. -/
def numW (s : ByteArray) : Int := match s.data.toList.head? with
  | none => 0
  | some c => if isLtr c.toNat then 0 else if isDig c.toNat then (if numBad s then 0 else numV s) else 0
def tok0 (x : Int × ByteArray) : Value := .agg #[.int .i64 x.1, .string x.2, .int .i64 0, .int .i64 0, .int .i64 0, .int .i64 0]
def tokW (x : Int × ByteArray) (n : Int) : Value := .agg #[.int .i64 x.1, .string x.2, .int .i64 n, .int .i64 0, .int .i64 0, .int .i64 0]
theorem tokW_zero (x : Int × ByteArray) : tokW x 0 = tok0 x := rfl

/-- What is laid of Go's library: the tables of unicode utf8; an error that is not nil. -/
def Gl (w : World) : Prop := Lib.Utf8Tabs 0 1 w ∧ ∃ te pe, w.cell? ⟨4, 0, none⟩ = some (.iface te pe)
theorem Gl.below {B : Nat} {w w1 : World} (h : Gl w) (hb : Below B w w1) (h0 : 0 < B) (h1 : 1 < B) (h4 : 4 < B) : Gl w1 := by
  obtain ⟨⟨a, b⟩, te, pe, c⟩ := h
  exact ⟨⟨fun i hi => (hb.cell (p := ⟨0, i, none⟩) h0).trans (a i hi), fun i hi => ⟨(hb.cell (p := ⟨1, 2 * i, none⟩) h1).trans (b i hi).1, (hb.cell (p := ⟨1, 2 * i + 1, none⟩) h1).trans (b i hi).2⟩⟩, te, pe, (hb.cell (p := ⟨4, 0, none⟩) h4).trans c⟩
theorem Gl.lt {w : World} (h : Gl w) : 0 < w.heap.size ∧ 1 < w.heap.size ∧ 4 < w.heap.size := by
  obtain ⟨⟨a, b⟩, te, pe, c⟩ := h
  exact ⟨World.block_lt_of_cell? _ _ (a 0 (by decide)), World.block_lt_of_cell? _ _ (b 0 (by decide)).1, World.block_lt_of_cell? _ _ c⟩
theorem Gl.on {w w1 : World} (h : Gl w) (hb : Below w.heap.size w w1) : Gl w1 := h.below hb h.lt.1 h.lt.2.1 h.lt.2.2

theorem parse_digits : ∀ (l : List UInt8) (acc : Nat), (∀ c ∈ l, isDig c.toNat) → (∃ u, Lib.parseUint10 acc l = .ok u) ∨ Lib.parseUint10 acc l = .range
  | [], acc, _ => .inl ⟨acc, rfl⟩
  | c :: l, acc, h => by
    have hc : 48 ≤ c.toNat ∧ c.toNat ≤ 57 := h c (by simp)
    rw [Lib.parseUint10, if_pos hc]
    split
    · exact .inr rfl
    · split
      · exact .inr rfl
      · exact parse_digits l _ (fun x hx => h x (by simp [hx]))
theorem atoi_digits (l : List UInt8) (hn : l ≠ []) (h : ∀ c ∈ l, isDig c.toNat) : (∃ v : Int, Lib.atoiAll l = .ok v) ∨ Lib.atoiAll l = .range := by
  cases l with
  | nil => exact absurd rfl hn
  | cons c r =>
    have hc : 48 ≤ c.toNat ∧ c.toNat ≤ 57 := h c (by simp)
    have h43 : ¬ (c.toNat = 43 ∨ c.toNat = 45) := by omega
    have h45 : ¬ c.toNat = 45 := by omega
    simp only [Lib.atoiAll, if_neg h43, Lib.parseMag, if_neg (List.cons_ne_nil c r)]
    rcases parse_digits (c :: r) 0 h with ⟨u, hu⟩ | hu
    · rw [hu]
      simp only [h45, not_false_eq_true, true_and, false_and, if_false]
      split
      · exact .inr rfl
      · exact .inl ⟨_, rfl⟩
    · rw [hu]
      exact .inr rfl
theorem digits_at (s : ByteArray) : ∀ c ∈ (s.extract 0 (digN s)).data.toList, isDig c.toNat := by
  intro c hc
  have he : (s.extract 0 (digN s)).data.toList = s.data.toList.takeWhile fun c => decide (isDig c.toNat) := by
    have h1 : (s.extract 0 (digN s)).data.toList = s.data.toList.take (digN s) := by
      simp [ByteArray.data_extract, Array.toList_extract]
    rw [h1, digN, runP]
    exact (List.prefix_iff_eq_take.1 (List.takeWhile_prefix _)).symm
  rw [he] at hc
  simpa using List.all_eq_true.1 (List.all_takeWhile (p := fun c : UInt8 => decide (isDig c.toNat)) (l := s.data.toList)) c hc

theorem runP_le (p : Nat → Bool) (l : List UInt8) : runP p l ≤ l.length := by
  unfold runP
  exact (List.takeWhile_sublist _).length_le

theorem zero_tok {w : World} {g : Nat} (h : w.heap[g]? = some (.cells #[.int .i64 0, .string ⟨#[]⟩, .int .i64 0, .int .i64 0, .int .i64 0, .int .i64 0] 73 (0, 0))) :
    w.cell? ⟨g, 0, none⟩ = some (.int .i64 0) ∧ w.cell? ⟨g, 1, none⟩ = some (.string ⟨#[]⟩) ∧ w.cell? ⟨g, 2, none⟩ = some (.int .i64 0) ∧ w.cell? ⟨g, 3, none⟩ = some (.int .i64 0) ∧ w.cell? ⟨g, 4, none⟩ = some (.int .i64 0) ∧ w.cell? ⟨g, 5, none⟩ = some (.int .i64 0) ∧
    w.frozen? ⟨g, 0, none⟩ = false ∧ w.frozen? ⟨g, 1, none⟩ = false ∧ w.frozen? ⟨g, 2, none⟩ = false ∧ w.frozen? ⟨g, 3, none⟩ = false ∧ w.frozen? ⟨g, 4, none⟩ = false ∧ w.frozen? ⟨g, 5, none⟩ = false :=
  ⟨(blk_cell h 0).trans rfl, (blk_cell h 1).trans rfl, (blk_cell h 2).trans rfl, (blk_cell h 3).trans rfl, (blk_cell h 4).trans rfl, (blk_cell h 5).trans rfl, blk_frozen h 0, blk_frozen h 1, blk_frozen h 2, blk_frozen h 3, blk_frozen h 4, blk_frozen h 5⟩

theorem bytes_below {w w2 : World} (h : w2 = w ∨ ∃ t, w2 = Lib.bytesWorld w 5 t) : Below w.heap.size w w2 := by
  rcases h with rfl | ⟨t, rfl⟩
  · exact Below.refl _ _
  · exact Lib.bytesWorld_below w _ t
/-- What word answers at a digit, by what Atoi says. -/
def DigPost (s : ByteArray) (w : World) (e : Ending) (w' : World) : Prop :=
  e = .returned (if numBad s then .tuple #[tok0 (0, noText), .int .i64 ((0 : Nat) : Int), .int .i64 21] else .tuple #[tokW (2, noText) (numV s), .int .i64 (digN s : Nat), .int .i64 0]) ∧ Below w.heap.size w w'
theorem dig_bad {s : ByteArray} {w w' : World} (h : numBad s = true) (hb : Below w.heap.size w w') : DigPost s w (.returned (.tuple #[tok0 (0, noText), .int .i64 ((0 : Nat) : Int), .int .i64 21])) w' := ⟨by rw [if_pos h], hb⟩
theorem dig_good {s : ByteArray} {w w' : World} (h : numBad s = false) (hb : Below w.heap.size w w') : DigPost s w (.returned (.tuple #[tokW (2, noText) (numV s), .int .i64 (digN s : Nat), .int .i64 0])) w' := ⟨by rw [if_neg (by rw [h]; decide)], hb⟩
theorem below6s {w w' : World} (h : Below w.heap.size w w') (b0 b1 b2 b3 b4 b5 : Value) : Below w.heap.size w ((((((w'.setCell ⟨w.heap.size, 0, none⟩ b0).setCell ⟨w.heap.size, 1, none⟩ b1).setCell ⟨w.heap.size, 2, none⟩ b2).setCell ⟨w.heap.size, 3, none⟩ b3).setCell ⟨w.heap.size, 4, none⟩ b4).setCell ⟨w.heap.size, 5, none⟩ b5) :=
  (((((h.setCell (p := ⟨w.heap.size, 0, none⟩) (Nat.le_refl _) _).setCell (p := ⟨w.heap.size, 1, none⟩) (Nat.le_refl _) _).setCell (p := ⟨w.heap.size, 2, none⟩) (Nat.le_refl _) _).setCell (p := ⟨w.heap.size, 3, none⟩) (Nat.le_refl _) _).setCell (p := ⟨w.heap.size, 4, none⟩) (Nat.le_refl _) _).setCell (p := ⟨w.heap.size, 5, none⟩) (Nat.le_refl _) _

set_option maxRecDepth 100000 in
set_option maxHeartbeats 4000000 in
theorem word_dig0 (s : ByteArray) (w : World) (hs : s.size ≤ 140737488355328) (hGl : Gl w) (h0 : 0 < s.size) (hl : ¬ isLtr s[0].toNat) (hd : isDig s[0].toNat) :
    Calls Tryz.prog 61 #[.string s] w (DigPost s w) := by
  have he1 : ∀ args W, (callFunc 75 args).run Tryz.prog W = .ok (.enter 75 args) W := enters_of Tryz.func75 (by kernel_rfl) rfl
  have hb : s[0].toNat < 256 := s[0].toNat_lt
  have hc0 : s.data.toList.getD 0 0 = s[0] := by
    rw [List.getD_eq_getElem?_getD, List.getElem?_eq_getElem (by simpa using h0)]; rfl
  have hrl : digN s ≤ s.size := by have := runP_le (fun c => decide (isDig c)) s.data.toList; rw [digN]; simpa using this
  have hr1 : 1 ≤ digN s := by
    have := runP_at (fun c => decide (isDig c)) s 0 h0
    simp only [hd, decide_true, if_true, List.drop_zero] at this
    rw [digN, this]
    omega
  have hat := atoi_digits (s.extract 0 (digN s)).data.toList (by
    intro h
    have h2 : (s.extract 0 (digN s)).size = 0 := by
      show (s.extract 0 (digN s)).data.size = 0
      rw [← Array.length_toList, h]; rfl
    rw [ByteArray.size_extract] at h2
    omega) (digits_at s)
  have hnb : numBad s = ((decide (1 < digN s) && decide (s.data.toList.getD 0 0 = 48)) || decide (999999999 < numV s) || (decide (digN s < s.size) && decide (isTail (s.data.toList.getD (digN s) 0).toNat))) := rfl
  have hnv : numV s = match Lib.atoiAll (s.extract 0 (digN s)).data.toList with | .ok v => v | _ => 1000000000 := rfl
  rw [hc0] at hnb
  have Hrun := Lib.hid (fun W => run_any s 75 (fun c => decide (isDig c)) W hs he1 (fun c W hc => digit_any c W hc))
  change Hid (∀ W, Calls Tryz.prog 73 #[.string s, .func (.func 75) #[] #[]] W fun e w' => e = .returned (.int .i64 (digN s : Nat)) ∧ W = w') at Hrun
  have Hgood := Lib.hid (fun (w' : World) => @dig_good s w w')
  have Hbad := Lib.hid (fun (w' : World) => @dig_bad s w w')
  have hsz : (s.extract 0 (digN s)).size ≤ 140737488355328 := by rw [ByteArray.size_extract]; omega
  have hend : ∀ h : digN s < s.size, s.data.toList.getD (digN s) 0 = s[digN s] := fun h => by
    rw [List.getD_eq_getElem?_getD, List.getElem?_eq_getElem (by simpa using h)]; rfl
  have Hl := Lib.hid (decide_eq_false hl)
  have Hd := Lib.hid (decide_eq_true hd)
  have HGl := Lib.hid hGl
  generalize numV s = nv at *
  generalize hP : DigPost s w = P at *
  generalize digN s = n at *
  have hn2 : (n : Int) ≤ (s.size : Int) := by omega
  have Hnb := Lib.hid hnb
  clear hnb hl hd hGl he1
  generalize numBad s = nb at *
  rcases hat with ⟨v, hv⟩ | hv
  · have hnv2 : nv = v := by rw [hnv, hv]
    subst hnv2
    have Hat := Lib.hid (fun W => Tryz.strconv_Atoi_ok (s.extract 0 n) (by omega) nv hv W)
    have Hend := Lib.hid hend
    clear hnv hv hend
    go_enter Tryz.func61, Tryz.ntmps61
    go_wp2_with fail
    refine (letter_any _ _ hb).mono ?_
    rintro e w' ⟨rfl, rfl⟩
    rw [Hl.out]
    go_wp2_with fail
    refine (digit_any _ _ hb).mono ?_
    rintro e w' ⟨rfl, rfl⟩
    rw [Hd.out]
    go_wp2_with fail
    refine (Hrun.out _).mono ?_
    rintro e w' ⟨rfl, rfl⟩
    go_wp2_with fail
    refine (Hat.out _).mono ?_
    rintro e w2 ⟨rfl, hw2⟩
    have hb2 := bytes_below hw2
    have HK := Lib.hid (blk_below' (blk_new w _) hb2)
    have HB := Lib.hid (below_tail hb2)
    clear hb2 hw2
    obtain ⟨c0, c1, c2, c3, c4, c5, z0, z1, z2, z3, z4, z5⟩ := zero_tok HK.out
    have hsz2 := HB.out.size
    have hn2w : w.heap.size < w2.heap.size := blk_lt HK.out
    by_cases q1 : 1 < n
    · have i1 : (1 : Int) < (n : Int) := by omega
      by_cases q2 : s[0].toNat = 48
      · have i2 : ((s[0].toNat : Int) == 48) = true := by rw [beq_iff_eq]; omega
        have q2' : s[0] = 48 := UInt8.toNat_inj.1 q2
        go_wp2_with fail
        exact bodyPost_ret (v := .tuple #[tok0 (0, noText), .int .i64 ((0 : Nat) : Int), .int .i64 21]) (by simp [results, Tryz.results61, go_sem, tok0, tokW, noText, hn2w, c0, c1, c2, c3, c4, c5]) rfl (Hbad.out _ (by rw [Hnb.out]; simp [*]) (below6s HB.out _ _ _ _ _ _))
      · have i2 : ((s[0].toNat : Int) == 48) = false := by rw [beq_eq_false_iff_ne]; omega
        have q2' : ¬ s[0] = 48 := fun h => q2 (by rw [h]; rfl)
        by_cases q3 : 999999999 < nv
        · go_wp2_with fail
          exact bodyPost_ret (v := .tuple #[tok0 (0, noText), .int .i64 ((0 : Nat) : Int), .int .i64 21]) (by simp [results, Tryz.results61, go_sem, tok0, tokW, noText, hn2w, c0, c1, c2, c3, c4, c5]) rfl (Hbad.out _ (by rw [Hnb.out]; simp [*]) (below6s HB.out _ _ _ _ _ _))
        · by_cases q4 : n < s.size
          · have i4 : (n : Int) < (s.size : Int) := by omega
            have hbt : s[n].toNat < 256 := s[n].toNat_lt
            have Hn := Lib.hid (Hend.out q4)
            go_wp2_with fail
            refine (tail_any _ _ hbt).mono ?_
            rintro e w' ⟨rfl, rfl⟩
            by_cases q5 : isTail s[n].toNat
            · rw [decide_eq_true q5]
              go_wp2_with fail
              exact bodyPost_ret (v := .tuple #[tok0 (0, noText), .int .i64 ((0 : Nat) : Int), .int .i64 21]) (by simp [results, Tryz.results61, go_sem, tok0, tokW, noText, hn2w, c0, c1, c2, c3, c4, c5]) rfl (Hbad.out _ (by rw [Hnb.out]; rw [Hn.out]; simp [*]) (below6s HB.out _ _ _ _ _ _))
            · rw [decide_eq_false q5]
              go_wp2_with fail
              exact bodyPost_ret (v := .tuple #[tokW (2, noText) nv, .int .i64 ((n : Nat) : Int), .int .i64 0]) (by simp [results, Tryz.results61, go_sem, tok0, tokW, noText, hn2w, c0, c1, c2, c3, c4, c5]) rfl (Hgood.out _ (by rw [Hnb.out]; rw [Hn.out]; simp [*]) (below6s HB.out _ _ _ _ _ _))
          · have i4 : ¬ (n : Int) < (s.size : Int) := by omega
            go_wp2_with fail
            exact bodyPost_ret (v := .tuple #[tokW (2, noText) nv, .int .i64 ((n : Nat) : Int), .int .i64 0]) (by simp [results, Tryz.results61, go_sem, tok0, tokW, noText, hn2w, c0, c1, c2, c3, c4, c5]) rfl (Hgood.out _ (by rw [Hnb.out]; simp [*]) (below6s HB.out _ _ _ _ _ _))
    · have i1 : ¬ (1 : Int) < (n : Int) := by omega
      by_cases q3 : 999999999 < nv
      · go_wp2_with fail
        exact bodyPost_ret (v := .tuple #[tok0 (0, noText), .int .i64 ((0 : Nat) : Int), .int .i64 21]) (by simp [results, Tryz.results61, go_sem, tok0, tokW, noText, hn2w, c0, c1, c2, c3, c4, c5]) rfl (Hbad.out _ (by rw [Hnb.out]; simp [*]) (below6s HB.out _ _ _ _ _ _))
      · by_cases q4 : n < s.size
        · have i4 : (n : Int) < (s.size : Int) := by omega
          have hbt : s[n].toNat < 256 := s[n].toNat_lt
          have Hn := Lib.hid (Hend.out q4)
          go_wp2_with fail
          refine (tail_any _ _ hbt).mono ?_
          rintro e w' ⟨rfl, rfl⟩
          by_cases q5 : isTail s[n].toNat
          · rw [decide_eq_true q5]
            go_wp2_with fail
            exact bodyPost_ret (v := .tuple #[tok0 (0, noText), .int .i64 ((0 : Nat) : Int), .int .i64 21]) (by simp [results, Tryz.results61, go_sem, tok0, tokW, noText, hn2w, c0, c1, c2, c3, c4, c5]) rfl (Hbad.out _ (by rw [Hnb.out]; rw [Hn.out]; simp [*]) (below6s HB.out _ _ _ _ _ _))
          · rw [decide_eq_false q5]
            go_wp2_with fail
            exact bodyPost_ret (v := .tuple #[tokW (2, noText) nv, .int .i64 ((n : Nat) : Int), .int .i64 0]) (by simp [results, Tryz.results61, go_sem, tok0, tokW, noText, hn2w, c0, c1, c2, c3, c4, c5]) rfl (Hgood.out _ (by rw [Hnb.out]; rw [Hn.out]; simp [*]) (below6s HB.out _ _ _ _ _ _))
        · have i4 : ¬ (n : Int) < (s.size : Int) := by omega
          go_wp2_with fail
          exact bodyPost_ret (v := .tuple #[tokW (2, noText) nv, .int .i64 ((n : Nat) : Int), .int .i64 0]) (by simp [results, Tryz.results61, go_sem, tok0, tokW, noText, hn2w, c0, c1, c2, c3, c4, c5]) rfl (Hgood.out _ (by rw [Hnb.out]; simp [*]) (below6s HB.out _ _ _ _ _ _))
  · have hnv2 : nv = 1000000000 := by rw [hnv, hv]
    subst hnv2
    have Hat := Lib.hid (fun (W : World) (te : TypeId) (pe : Value) (hg : W.cell? ⟨4, 0, none⟩ = some (.iface te pe)) => Tryz.strconv_Atoi_range (s.extract 0 n) (by omega) hv _ W hg (.inr ⟨te, pe, rfl⟩))
    have Hend := Lib.hid hend
    obtain ⟨te, pe, hg4⟩ := (Gl.on HGl.out ((Below.refl _ w).alloc (Nat.le_refl _) (.cells #[.int .i64 0, .string ⟨#[]⟩, .int .i64 0, .int .i64 0, .int .i64 0, .int .i64 0] 73))).2
    have Hg4 := Lib.hid hg4
    clear hnv hv hend hg4
    go_enter Tryz.func61, Tryz.ntmps61
    go_wp2_with fail
    refine (letter_any _ _ hb).mono ?_
    rintro e w' ⟨rfl, rfl⟩
    rw [Hl.out]
    go_wp2_with fail
    refine (digit_any _ _ hb).mono ?_
    rintro e w' ⟨rfl, rfl⟩
    rw [Hd.out]
    go_wp2_with fail
    refine (Hrun.out _).mono ?_
    rintro e w' ⟨rfl, rfl⟩
    go_wp2_with fail
    refine (Hat.out _ te pe Hg4.out).mono ?_
    rintro e w2 ⟨N, rfl, hN, hN2, hb2⟩
    have HK := Lib.hid (blk_below' (blk_new w _) hb2)
    have HB := Lib.hid (below_tail hb2)
    clear hb2 hN hN2
    obtain ⟨c0, c1, c2, c3, c4, c5, z0, z1, z2, z3, z4, z5⟩ := zero_tok HK.out
    have hsz2 := HB.out.size
    have hn2w : w.heap.size < w2.heap.size := blk_lt HK.out
    generalize Lib.atoiSat (s.extract 0 n).data.toList = sat at *
    by_cases q1 : 1 < n
    · have i1 : (1 : Int) < (n : Int) := by omega
      by_cases q2 : s[0].toNat = 48
      · have i2 : ((s[0].toNat : Int) == 48) = true := by rw [beq_iff_eq]; omega
        go_wp2_with fail
        exact bodyPost_ret (v := .tuple #[tok0 (0, noText), .int .i64 ((0 : Nat) : Int), .int .i64 21]) (by simp [results, Tryz.results61, go_sem, tok0, tokW, noText, hn2w, c0, c1, c2, c3, c4, c5]) rfl (Hbad.out _ (by rw [Hnb.out]; simp [*]) (below6s HB.out _ _ _ _ _ _))
      · have i2 : ((s[0].toNat : Int) == 48) = false := by rw [beq_eq_false_iff_ne]; omega
        go_wp2_with fail
        exact bodyPost_ret (v := .tuple #[tok0 (0, noText), .int .i64 ((0 : Nat) : Int), .int .i64 21]) (by simp [results, Tryz.results61, go_sem, tok0, tokW, noText, hn2w, c0, c1, c2, c3, c4, c5]) rfl (Hbad.out _ (by rw [Hnb.out]; simp [*]) (below6s HB.out _ _ _ _ _ _))
    · have i1 : ¬ (1 : Int) < (n : Int) := by omega
      go_wp2_with fail
      exact bodyPost_ret (v := .tuple #[tok0 (0, noText), .int .i64 ((0 : Nat) : Int), .int .i64 21]) (by simp [results, Tryz.results61, go_sem, tok0, tokW, noText, hn2w, c0, c1, c2, c3, c4, c5]) rfl (Hbad.out _ (by rw [Hnb.out]; simp [*]) (below6s HB.out _ _ _ _ _ _))
theorem word_dig (s : ByteArray) (w : World) (r : (Int × ByteArray) × Nat × Int) (hs : s.size ≤ 140737488355328) (hGl : Gl w) (h0 : 0 < s.size) (hl : ¬ isLtr s[0].toNat) (hd : isDig s[0].toNat) (hr : (if numBad s then some (((0, noText), 0, 21) : (Int × ByteArray) × Nat × Int) else some ((2, noText), digN s, 0)) = some r) :
    Calls Tryz.prog 61 #[.string s] w fun e w' => e = .returned (.tuple #[tokW r.1 (numW s), .int .i64 r.2.1, .int .i64 r.2.2]) ∧ Below w.heap.size w w' := by
  have hh : s.data.toList.head? = some s[0] := by
    rw [show s.data.toList = s[0] :: s.data.toList.drop 1 from by simpa using drop_rest s 0 h0]; rfl
  refine (word_dig0 s w hs hGl h0 hl hd).mono ?_
  rintro e w' ⟨he, hb⟩
  refine ⟨?_, hb⟩
  rw [he]
  by_cases hn : numBad s
  · rw [if_pos hn] at hr ⊢
    obtain rfl := Option.some.inj hr
    have : numW s = 0 := by simp [numW, hh, hl, hd, hn]
    rw [this, tokW_zero]
  · rw [if_neg hn] at hr ⊢
    obtain rfl := Option.some.inj hr
    have : numW s = numV s := by simp [numW, hh, hl, hd, hn]
    rw [this]

set_option maxRecDepth 100000 in
set_option maxHeartbeats 2000000 in
theorem word_tok (s : ByteArray) (w : World) (r : (Int × ByteArray) × Nat × Int) (hs : s.size ≤ 140737488355328) (hGl : Gl w) (hr : wordP s = some r) :
    Calls Tryz.prog 61 #[.string s] w fun e w' => e = .returned (.tuple #[tokW r.1 (numW s), .int .i64 r.2.1, .int .i64 r.2.2]) ∧ Below w.heap.size w w' := by
  have hT := hGl.1
  have HGl := Lib.hid hGl
  clear hGl
  have he1 : ∀ args W, (callFunc 74 args).run Tryz.prog W = .ok (.enter 74 args) W := enters_of Tryz.func74 (by kernel_rfl) rfl
  have HE := Lib.hid he1
  have HT := Lib.hid hT
  clear he1 hT
  by_cases h0 : 0 < s.size
  · have hh : s.data.toList.head? = some s[0] := by
      rw [show s.data.toList = s[0] :: s.data.toList.drop 1 from by simpa using drop_rest s 0 h0]; rfl
    have hb : s[0].toNat < 256 := s[0].toNat_lt
    have hrl : runP (fun c => decide (isTail c)) s.data.toList ≤ s.size := by have := runP_le (fun c => decide (isTail c)) s.data.toList; simpa using this
    rw [wordP, hh] at hr
    simp only at hr
    by_cases hl : isLtr s[0].toNat
    · have hnw : numW s = 0 := by simp [numW, hh, hl]
      rw [hnw, tokW_zero]
      clear hnw
      rw [if_pos hl] at hr
      have Hl := Lib.hid (decide_eq_true hl)
      have Hrun := Lib.hid (fun W => run_any s 74 (fun c => decide (isTail c)) W hs HE.out (fun c W hc => tail_any c W hc))
      generalize runP (fun c => decide (isTail c)) s.data.toList = n at *
      clear hl hh
      by_cases hn : 31 < n
      · rw [if_pos hn] at hr
        obtain rfl := Option.some.inj hr
        have hn1 : (31 : Int) < (n : Int) := by omega
        clear hr
        go_enter Tryz.func61, Tryz.ntmps61
        go_wp2_with fail
        refine (letter_any _ _ hb).mono ?_
        rintro e w' ⟨rfl, rfl⟩
        rw [Hl.out]
        go_wp2_with fail
        refine (Hrun.out _).mono ?_
        rintro e w' ⟨rfl, rfl⟩
        go_wp2_with fail
        exact bodyPost_ret (v := .tuple #[tok0 (0, noText), .int .i64 ((0 : Nat) : Int), .int .i64 22]) (by simp [results, Tryz.results61, go_sem, tok0, noText]) rfl ⟨rfl, ((Below.refl _ _).alloc (Nat.le_refl _) _)⟩
      · rw [if_neg hn] at hr
        obtain rfl := Option.some.inj hr
        have hn1 : ¬ (31 : Int) < (n : Int) := by omega
        have hn2 : (n : Int) ≤ (s.size : Int) := by omega
        clear hr
        go_enter Tryz.func61, Tryz.ntmps61
        go_wp2_with fail
        refine (letter_any _ _ hb).mono ?_
        rintro e w' ⟨rfl, rfl⟩
        rw [Hl.out]
        go_wp2_with fail
        refine (Hrun.out _).mono ?_
        rintro e w' ⟨rfl, rfl⟩
        go_wp2_with fail
        exact bodyPost_ret (v := .tuple #[tok0 (1, s.extract 0 n), .int .i64 ((n : Nat) : Int), .int .i64 0]) (by simp [results, Tryz.results61, go_sem, tok0, noText]) rfl ⟨rfl, ((Below.refl _ _).alloc (Nat.le_refl _) _)⟩
    · rw [if_neg hl] at hr
      have Hl := Lib.hid (decide_eq_false hl)
      by_cases hd : isDig s[0].toNat
      · rw [if_pos hd] at hr
        exact word_dig s w r hs HGl.out h0 hl hd hr
      · have hnw : numW s = 0 := by simp [numW, hh, hl, hd]
        rw [hnw, tokW_zero]
        clear hnw
        rw [if_neg hd] at hr
        have Hd := Lib.hid (decide_eq_false hd)
        have Hdec := Lib.hid (fun (W : World) (hT : Lib.Utf8Tabs 0 1 W) => Tryz.utf8_DecodeRuneInString s W hT)
        have Hsg := Lib.hid (fun (W : World) (hT : Lib.Utf8Tabs 0 1 W) => sign_any s W hT)
        have HT1 := Lib.hid (Utf8Tabs_below HT.out ((Below.refl _ _).alloc (Nat.le_refl _) (.cells #[.int .i64 0, .string ⟨#[]⟩, .int .i64 0, .int .i64 0, .int .i64 0, .int .i64 0] 73)))
        generalize (Lib.decodeGo s).1 = ru at *
        generalize (Lib.decodeGo s).2 = m at *
        generalize (signP s).1 = x at *
        generalize (signP s).2 = y at *
        clear hl hd hh hrl
        by_cases r1 : ru = 8868
        · rw [if_pos r1] at hr
          obtain rfl := Option.some.inj hr
          clear hr
          subst r1
          go_enter Tryz.func61, Tryz.ntmps61
          go_wp2_with fail
          refine (letter_any _ _ hb).mono ?_
          rintro e w' ⟨rfl, rfl⟩
          rw [Hl.out]
          go_wp2_with fail
          refine (digit_any _ _ hb).mono ?_
          rintro e w' ⟨rfl, rfl⟩
          rw [Hd.out]
          go_wp2_with fail
          refine (Hdec.out _ HT1.out).mono ?_
          rintro e w2 ⟨rfl, hb2⟩
          have HK := Lib.hid (blk_below' (blk_new w _) hb2)
          have HB := Lib.hid (below_tail hb2)
          have HT2 := Lib.hid (Utf8Tabs_below HT1.out hb2)
          clear hb2
          obtain ⟨c0, c1, c2, c3, c4, c5, z0, z1, z2, z3, z4, z5⟩ := zero_tok HK.out
          have hsz := HB.out.size
          go_wp2_with fail
          refine bodyPost_ret (v := .tuple #[tok0 (1, ⟨#[116, 114, 117, 101]⟩), .int .i64 ((m : Nat) : Int), .int .i64 0]) (by simp [results, Tryz.results61, go_sem, tok0, noText, c0, c1, c2, c3, c4, c5]) rfl ⟨rfl, ?_⟩
          exact (((((HB.out.setCell (Nat.le_refl _) _).setCell (Nat.le_refl _) _).setCell (Nat.le_refl _) _).setCell (Nat.le_refl _) _).setCell (Nat.le_refl _) _).setCell (Nat.le_refl _) _
        · rw [if_neg r1] at hr
          have q1 : ((ru : Int) == 8868) = false := by rw [beq_eq_false_iff_ne]; omega
          by_cases r2 : ru = 8869
          · rw [if_pos r2] at hr
            obtain rfl := Option.some.inj hr
            clear hr
            subst r2
            go_enter Tryz.func61, Tryz.ntmps61
            go_wp2_with fail
            refine (letter_any _ _ hb).mono ?_
            rintro e w' ⟨rfl, rfl⟩
            rw [Hl.out]
            go_wp2_with fail
            refine (digit_any _ _ hb).mono ?_
            rintro e w' ⟨rfl, rfl⟩
            rw [Hd.out]
            go_wp2_with fail
            refine (Hdec.out _ HT1.out).mono ?_
            rintro e w2 ⟨rfl, hb2⟩
            have HK := Lib.hid (blk_below' (blk_new w _) hb2)
            have HB := Lib.hid (below_tail hb2)
            have HT2 := Lib.hid (Utf8Tabs_below HT1.out hb2)
            clear hb2
            obtain ⟨c0, c1, c2, c3, c4, c5, z0, z1, z2, z3, z4, z5⟩ := zero_tok HK.out
            have hsz := HB.out.size
            go_wp2_with fail
            refine bodyPost_ret (v := .tuple #[tok0 (1, ⟨#[102, 97, 108, 115, 101]⟩), .int .i64 ((m : Nat) : Int), .int .i64 0]) (by simp [results, Tryz.results61, go_sem, tok0, noText, c0, c1, c2, c3, c4, c5]) rfl ⟨rfl, ?_⟩
            exact (((((HB.out.setCell (Nat.le_refl _) _).setCell (Nat.le_refl _) _).setCell (Nat.le_refl _) _).setCell (Nat.le_refl _) _).setCell (Nat.le_refl _) _).setCell (Nat.le_refl _) _
          · rw [if_neg r2] at hr
            have q2 : ((ru : Int) == 8869) = false := by rw [beq_eq_false_iff_ne]; omega
            by_cases r3 : y = 0
            · rw [if_pos r3] at hr
              obtain rfl := Option.some.inj hr
              subst r3
              clear hr r1 r2
              go_enter Tryz.func61, Tryz.ntmps61
              go_wp2_with fail
              refine (letter_any _ _ hb).mono ?_
              rintro e w' ⟨rfl, rfl⟩
              rw [Hl.out]
              go_wp2_with fail
              refine (digit_any _ _ hb).mono ?_
              rintro e w' ⟨rfl, rfl⟩
              rw [Hd.out]
              go_wp2_with fail
              refine (Hdec.out _ HT1.out).mono ?_
              rintro e w2 ⟨rfl, hb2⟩
              have HK := Lib.hid (blk_below' (blk_new w _) hb2)
              have HB := Lib.hid (below_tail hb2)
              have HT2 := Lib.hid (Utf8Tabs_below HT1.out hb2)
              clear hb2
              go_wp2_with fail
              refine (Hsg.out _ HT2.out).mono ?_
              rintro e w3 ⟨rfl, hb3⟩
              have HK := Lib.hid (blk_below' HK.out hb3)
              have HB := Lib.hid (HB.out.trans (hb3.mono HB.out.size))
              clear hb3
              obtain ⟨c0, c1, c2, c3, c4, c5, z0, z1, z2, z3, z4, z5⟩ := zero_tok HK.out
              have hsz := HB.out.size
              go_wp2_with fail
              refine bodyPost_ret (v := .tuple #[tok0 (0, noText), .int .i64 ((0 : Nat) : Int), .int .i64 20]) (by simp [results, Tryz.results61, go_sem, tok0, noText, c0, c1, c2, c3, c4, c5]) rfl ⟨rfl, ?_⟩
              exact (((((HB.out.setCell (Nat.le_refl _) _).setCell (Nat.le_refl _) _).setCell (Nat.le_refl _) _).setCell (Nat.le_refl _) _).setCell (Nat.le_refl _) _).setCell (Nat.le_refl _) _
            · rw [if_neg r3] at hr
              obtain rfl := Option.some.inj hr
              have q3 : ((y : Int) == 0) = false := by rw [beq_eq_false_iff_ne]; omega
              clear hr r1 r2 r3
              go_enter Tryz.func61, Tryz.ntmps61
              go_wp2_with fail
              refine (letter_any _ _ hb).mono ?_
              rintro e w' ⟨rfl, rfl⟩
              rw [Hl.out]
              go_wp2_with fail
              refine (digit_any _ _ hb).mono ?_
              rintro e w' ⟨rfl, rfl⟩
              rw [Hd.out]
              go_wp2_with fail
              refine (Hdec.out _ HT1.out).mono ?_
              rintro e w2 ⟨rfl, hb2⟩
              have HK := Lib.hid (blk_below' (blk_new w _) hb2)
              have HB := Lib.hid (below_tail hb2)
              have HT2 := Lib.hid (Utf8Tabs_below HT1.out hb2)
              clear hb2
              go_wp2_with fail
              refine (Hsg.out _ HT2.out).mono ?_
              rintro e w3 ⟨rfl, hb3⟩
              have HK := Lib.hid (blk_below' HK.out hb3)
              have HB := Lib.hid (HB.out.trans (hb3.mono HB.out.size))
              clear hb3
              obtain ⟨c0, c1, c2, c3, c4, c5, z0, z1, z2, z3, z4, z5⟩ := zero_tok HK.out
              have hsz := HB.out.size
              go_wp2_with fail
              refine bodyPost_ret (v := .tuple #[tok0 (3, x), .int .i64 ((y : Nat) : Int), .int .i64 0]) (by simp [results, Tryz.results61, go_sem, tok0, noText, c0, c1, c2, c3, c4, c5]) rfl ⟨rfl, ?_⟩
              exact (((((HB.out.setCell (Nat.le_refl _) _).setCell (Nat.le_refl _) _).setCell (Nat.le_refl _) _).setCell (Nat.le_refl _) _).setCell (Nat.le_refl _) _).setCell (Nat.le_refl _) _
  · exfalso
    have : s.data.toList = [] := List.eq_nil_of_length_eq_zero (by rw [Array.length_toList]; show s.size = 0; omega)
    rw [wordP, this] at hr
    simp at hr
end Go.Proofs.YtglnmkdlcbkpeaaGreatDoor
/- token: Scan, as a function. -/
set_option linter.unusedVariables false
set_option linter.unusedSimpArgs false
namespace Go.Proofs.YtglnmkdlcbkpeaaGreatDoor
open Go.RowKit

theorem hasPrefix_len : ∀ (a b : List UInt8), Lib.hasPrefix a b = true → b.length ≤ a.length := by
  intro a b h
  unfold Lib.hasPrefix at h
  first
    | (have h2 := (by simpa using h : b <+: a); exact h2.length_le)
    | (simp at h; omega)
theorem signP_le (s : ByteArray) : (signP s).2 ≤ s.size := by
  unfold signP
  split
  · rename_i x hx
    have := List.find?_some hx
    have := hasPrefix_len _ _ this
    simpa using this
  · have hd := Lib.decodeGo_le_size s
    unfold runeSign
    repeat' split
    all_goals simp only
    all_goals omega
theorem runP_pos (p : Nat → Bool) (s : ByteArray) (h : 0 < s.size) (hp : p s[0].toNat = true) : 1 ≤ runP p s.data.toList := by
  have := runP_at p s 0 h
  rw [hp, if_pos rfl] at this
  simp only [List.drop_zero] at this
  omega
theorem wordP_le (s : ByteArray) (r : (Int × ByteArray) × Nat × Int) (h : wordP s = some r) : r.2.1 ≤ s.size ∧ (r.2.2 = 0 → 1 ≤ r.2.1) ∧ 0 < s.size := by
  have hs : 0 < s.size := by
    rcases Nat.eq_zero_or_pos s.size with h0 | h0
    · exfalso
      have : s.data.toList = [] := List.eq_nil_of_length_eq_zero (by rw [Array.length_toList]; exact h0)
      rw [wordP, this] at h
      simp at h
    · exact h0
  refine ⟨?_, ?_, hs⟩
  all_goals
    have hh : s.data.toList.head? = some s[0] := by
      rw [show s.data.toList = s[0] :: s.data.toList.drop 1 from by simpa using drop_rest s 0 hs]; rfl
    have h1 := runP_le (fun c => decide (isTail c)) s.data.toList
    have h1' : runP (fun c => decide (isTail c)) s.data.toList ≤ s.size := by simpa using h1
    have h2 := Lib.decodeGo_le_size s
    have h3 := decode_pos s hs
    have h4 := signP_le s
    rw [wordP, hh] at h
    simp only at h
    by_cases c1 : isLtr s[0].toNat
    · have h5 := runP_pos (fun c => decide (isTail c)) s hs (decide_eq_true (show isTail s[0].toNat from .inl c1))
      rw [if_pos c1] at h
      by_cases c2 : 31 < runP (fun c => decide (isTail c)) s.data.toList
      · rw [if_pos c2] at h
        obtain rfl := Option.some.inj h
        simp
      · rw [if_neg c2] at h
        obtain rfl := Option.some.inj h
        simp only
        omega
    · rw [if_neg c1] at h
      by_cases c3 : isDig s[0].toNat
      · rw [if_pos c3] at h
        have h6 := runP_le (fun c => decide (isDig c)) s.data.toList
        have h6' : digN s ≤ s.size := by rw [digN]; simpa using h6
        have h7 : 1 ≤ digN s := runP_pos (fun c => decide (isDig c)) s hs (decide_eq_true c3)
        by_cases c9 : numBad s
        · rw [if_pos c9] at h
          obtain rfl := Option.some.inj h
          simp
        · rw [if_neg c9] at h
          obtain rfl := Option.some.inj h
          simp only
          omega
      · rw [if_neg c3] at h
        by_cases c4 : (Lib.decodeGo s).1 = 8868
        · rw [if_pos c4] at h
          obtain rfl := Option.some.inj h
          simp only
          omega
        · rw [if_neg c4] at h
          by_cases c5 : (Lib.decodeGo s).1 = 8869
          · rw [if_pos c5] at h
            obtain rfl := Option.some.inj h
            simp only
            omega
          · rw [if_neg c5] at h
            by_cases c6 : (signP s).2 = 0
            · rw [if_pos c6] at h
              obtain rfl := Option.some.inj h
              simp
            · rw [if_neg c6] at h
              obtain rfl := Option.some.inj h
              simp only
              omega

theorem blankN_le (s : ByteArray) (o n : Nat) (h : blankN (s.data.toList.drop o) = some n) : o < s.size ∧ 1 ≤ n ∧ o + n ≤ s.size := by
  have ho : o < s.size := by
    rcases Nat.lt_or_ge o s.size with h0 | h0
    · exact h0
    · rw [List.drop_of_length_le (by rw [Array.length_toList]; exact h0)] at h
      simp [blankN] at h
  have hlen : (s.data.toList.drop o).length = s.size - o := by simp
  refine ⟨ho, ?_⟩
  rw [drop_rest s o ho] at h hlen
  simp only [blankN] at h
  by_cases c1 : s[o] = 32 ∨ s[o] = 9 ∨ s[o] = 10 ∨ s[o] = 13
  · rw [if_pos c1] at h
    obtain rfl := Option.some.inj h
    omega
  · rw [if_neg c1] at h
    by_cases c2 : s[o] = 35
    · rw [if_pos c2] at h
      obtain rfl := Option.some.inj h
      by_cases c3 : Lib.indexByte (s[o] :: s.data.toList.drop (o + 1)) 10 < 0
      · rw [if_pos c3, hlen]
        omega
      · rw [if_neg c3]
        obtain ⟨i, hi⟩ := Int.eq_ofNat_of_zero_le (show 0 ≤ Lib.indexByte (s[o] :: s.data.toList.drop (o + 1)) 10 by omega)
        obtain ⟨h1, h2⟩ := Lib.indexByte_some hi
        have h3 := (List.getElem?_eq_some_iff.1 h1).1
        rw [hlen] at h3
        rw [hi]
        have : 1 ≤ i := by
          rcases Nat.eq_zero_or_pos i with rfl | hp
          · exfalso
            rw [c2] at h1
            simp at h1
          · exact hp
        simp
        omega
    · rw [if_neg c2] at h
      exact absurd h (by simp)

theorem skipQ_o (s : ByteArray) (p : Sp) (n : Nat) (h : p.o + n ≤ s.size) : p.o + n ≤ (skipQ s p n).o := skipP_ends s _ h n p (Nat.le_refl _)

theorem spaceP_more (s : ByteArray) : ∀ (f k : Nat) (p : Sp), s.size < p.o + f → spaceP s (f + k) p = spaceP s f p := by
  intro f
  induction f with
  | zero =>
    intro k p h
    rw [Nat.zero_add]
    cases k with
    | zero => rfl
    | succ k =>
      have : blankN (s.data.toList.drop p.o) = none := by
        rw [List.drop_of_length_le (by rw [Array.length_toList]; show s.size ≤ p.o; omega)]; rfl
      simp only [spaceP, this]
  | succ f ih =>
    intro k p h
    rw [show f + 1 + k = (f + k) + 1 from by omega]
    simp only [spaceP]
    cases hb : blankN (s.data.toList.drop p.o) with
    | none => rfl
    | some n =>
      obtain ⟨h1, h2, h3⟩ := blankN_le s p.o n hb
      have := skipQ_o s p n h3
      exact ih k _ (by omega)
def spaceQ (s : ByteArray) (p : Sp) : Sp := spaceP s (s.size + 1) p
theorem spaceQ_eq (s : ByteArray) (p q : Sp) (f : Nat) (h : ∀ k, spaceP s (f + k + 1) p = q) : spaceQ s p = q := by
  have h1 := spaceP_more s (s.size + 1) f p (by omega)
  have h2 := h s.size
  rw [spaceQ, ← h1, ← h2]
  congr 1
  omega

structure Tok where
  k : Int
  s : ByteArray
  n : Int
  l : Int
  c : Int
  o : Int
def Tok.cells (t : Tok) : List Value := [.int .i64 t.k, .string t.s, .int .i64 t.n, .int .i64 t.l, .int .i64 t.c, .int .i64 t.o]
def Tok.val (t : Tok) : Value := .agg #[.int .i64 t.k, .string t.s, .int .i64 t.n, .int .i64 t.l, .int .i64 t.c, .int .i64 t.o]
def toksCells (ts : List Tok) : List Value := ts.flatMap Tok.cells
structure Flt where
  e : Int
  l : Int
  c : Int
  o : Int
def Flt.val (f : Flt) : Value := .agg #[.int .i64 f.e, .int .i64 f.l, .int .i64 f.c, .int .i64 f.o]
def Flt.ok : Flt := ⟨0, 0, 0, 0⟩

def scanP (s : ByteArray) : Nat → Sp → List Tok → Option (List Tok × Flt)
  | 0, _, _ => none
  | f + 1, p, acc =>
    let q := spaceQ s p
    if q.o = s.size then some (acc ++ [⟨0, noText, 0, q.l, q.c, q.o⟩], Flt.ok)
    else match wordP (s.extract q.o s.size) with
      | none => none
      | some r => if r.2.2 ≠ 0 then some ([], ⟨r.2.2, q.l, q.c, q.o⟩)
        else scanP s f (skipQ s q r.2.1) (acc ++ [⟨r.1.1, r.1.2, numW (s.extract q.o s.size), q.l, q.c, q.o⟩])
def scanQ (s : ByteArray) : Option (List Tok × Flt) := scanP s (s.size + 1) ⟨1, 1, 0⟩ []
end Go.Proofs.YtglnmkdlcbkpeaaGreatDoor
/- token: Scan. -/
set_option linter.unusedVariables false
set_option linter.unusedSimpArgs false
namespace Go.Proofs.YtglnmkdlcbkpeaaGreatDoor
open Go.RowKit

theorem info_tok : (Tryz.prog.info? 73).map (fun i => (i.zero, i.size, i.bytes)) = some (some (.agg #[.int .i64 0, .string ⟨#[]⟩, .int .i64 0, .int .i64 0, .int .i64 0, .int .i64 0]), 6, 56) := by kernel_rfl
theorem under_toks : Tryz.prog.underlying 74 = some (.slice 73) := by kernel_rfl
theorem tok_news {w : World} {B : Nat} (d : Tok) (hB : w.heap[B]? = some (.cells #[.int .i64 d.k, .string d.s, .int .i64 d.n, .int .i64 d.l, .int .i64 d.c, .int .i64 d.o] 73 (0, 0))) : ∀ j u, d.cells[j]? = some u → w.cell? ((⟨B, 0, none⟩ : Addr).add j) = some u :=
  World.news_of_block (cs := #[.int .i64 d.k, .string d.s, .int .i64 d.n, .int .i64 d.l, .int .i64 d.c, .int .i64 d.o]) (t := 73) (fr := (0, 0)) hB
theorem tok_one (d : Tok) : ∀ u ∈ d.cells, u.oneCell' = true := by
  intro u hu
  simp only [Tok.cells, List.mem_cons, List.not_mem_nil, or_false] at hu
  rcases hu with rfl | rfl | rfl | rfl | rfl | rfl <;> rfl
theorem list_tok {ops : Array Oper} {rest : List Oper} {o : Oper} {a : Act} {w : World} {Q : Exit → Act → World → Prop} (hgd : o.guard = none) (s x : Operand)
    (ho : o.op = .call { callee := .builtin .append, args := #[s, x], argTypes := #[74, 74] }) (v : Value) (n : Nat) (xs : List Value) (hs : a.eval s = v) (B : Nat) (hx : a.eval x = .slice (some ⟨B, 0, none⟩) 1 1)
    (d : Tok) (base : Nat) (hown : w.ownsRow base 73 6 v n xs) (hbase : base ≤ w.heap.size) (hB : w.heap[B]? = some (.cells #[.int .i64 d.k, .string d.s, .int .i64 d.n, .int .i64 d.l, .int .i64 d.c, .int .i64 d.o] 73 (0, 0))) (hn : n ≤ 1099511627776)
    (h : ∀ g cap w', w'.ownsRow base 73 6 (.slice (some ⟨g, 0, none⟩) (n + 1) cap) (n + 1) (xs ++ d.cells) → w.grownBy w' v.ownBlock → (v.ownBlock = some g ∨ g = w.heap.size) → g < w'.heap.size → wpList Tryz.prog ops Q rest (a.put o.dst (.slice (some ⟨g, 0, none⟩) (n + 1) cap)) w') :
    wpList Tryz.prog ops Q (o :: rest) a w := by
  obtain ⟨i0, hi, hz0, hz1, hz2⟩ := info_parts info_tok
  exact wpList_append_lies w hgd s x 74 ho base 73 i0 _ 6 56 under_toks hi hz0 hz1 hz2 rfl (by decide) v n xs hs hown ⟨B, 0, none⟩ 1 1 d.cells hx rfl (tok_news d hB) (tok_one d) (by decide) (by unfold maxLen; omega) (by omega) hbase _ rfl h

theorem own_base {w : World} {base : Nat} {e : TypeId} {size n : Nat} {v : Value} {xs : List Value} (h : w.ownsRow base e size v n xs) (k : Nat) (hk : v.ownBlock = some k) : base ≤ k := by
  rcases h.2 with ⟨rfl, _⟩ | ⟨g, cap, cur, rfl, hg, _⟩
  · simp [Value.ownBlock] at hk
  · rw [own_eq hk]; exact hg
theorem own_set {w : World} {base : Nat} {e : TypeId} {size n : Nat} {v : Value} {xs : List Value} (h : w.ownsRow base e size v n xs) (p : Addr) (u : Value) (hne : ∀ k, v.ownBlock = some k → k ≠ p.block) : (w.setCell p u).ownsRow base e size v n xs :=
  own_move h (fun k hk => Below.heap_setCell w p u k (hne k hk))
theorem own_lower {w : World} {base base' : Nat} {e : TypeId} {size n : Nat} {v : Value} {xs : List Value} (h : w.ownsRow base e size v n xs) (hb : base' ≤ base) : w.ownsRow base' e size v n xs := by
  obtain ⟨h1, h2⟩ := h
  refine ⟨h1, ?_⟩
  rcases h2 with h2 | ⟨g, cap, cur, hv, hg, r⟩
  · exact .inl h2
  · exact .inr ⟨g, cap, cur, hv, Nat.le_trans hb hg, r⟩
theorem zero_flt {w : World} {g : Nat} (h : w.heap[g]? = some (.cells #[.int .i64 0, .int .i64 0, .int .i64 0, .int .i64 0] 40 (0, 0))) :
    w.cell? ⟨g, 0, none⟩ = some (.int .i64 0) ∧ w.cell? ⟨g, 1, none⟩ = some (.int .i64 0) ∧ w.cell? ⟨g, 2, none⟩ = some (.int .i64 0) ∧ w.cell? ⟨g, 3, none⟩ = some (.int .i64 0) ∧
    w.frozen? ⟨g, 0, none⟩ = false ∧ w.frozen? ⟨g, 1, none⟩ = false ∧ w.frozen? ⟨g, 2, none⟩ = false ∧ w.frozen? ⟨g, 3, none⟩ = false :=
  ⟨(blk_cell h 0).trans rfl, (blk_cell h 1).trans rfl, (blk_cell h 2).trans rfl, (blk_cell h 3).trans rfl, blk_frozen h 0, blk_frozen h 1, blk_frozen h 2, blk_frozen h 3⟩

theorem below_drew {B : Nat} {w w1 : World} (h : Below B w w1) : Below B w w1.drew := ⟨h.os, h.tape, h.output, h.size, h.block⟩
theorem toksCells_length (ts : List Tok) : (toksCells ts).length = ts.length * 6 := by
  induction ts with
  | nil => rfl
  | cons x xs ih => simp only [toksCells, List.flatMap_cons, List.length_append] at *; rw [ih]; simp [Tok.cells]; omega
theorem toksCells_append (a : List Tok) (d : Tok) : toksCells (a ++ [d]) = toksCells a ++ d.cells := by simp [toksCells]

/-- What Scan answers. -/
def ScanPost (w : World) (ts : List Tok) (f : Flt) (e : Ending) (w' : World) : Prop :=
  ∃ a c, e = .returned (.tuple #[.slice a ts.length c, f.val]) ∧ w'.ownsRow w.heap.size 73 6 (.slice a ts.length c) ts.length (toksCells ts) ∧ Below w.heap.size w w'

set_option maxRecDepth 100000 in
set_option maxHeartbeats 4000000 in
theorem scan_any (s : ByteArray) (w : World) (ts : List Tok) (fl : Flt) (hs : s.size ≤ 1099511627000) (hG : Gl w) (hr : scanQ s = some (ts, fl)) :
    Calls Tryz.prog 49 #[.string s] w (ScanPost w ts fl) := by
  have HG := Lib.hid hG
  have hg0 := hG.lt.1
  have hg1 := hG.lt.2.1
  have HT := Lib.hid hG.1
  have Hr := Lib.hid hr
  have hs2 : s.size ≤ 140737488355328 := by omega
  clear hG hr
  go_enter Tryz.func49, Tryz.ntmps49
  go_wp2_with fail
  go_loopw [5] (fun v wr => ∃ (f : Nat) (p : Sp) (acc : List Tok) (a : Option Addr) (c : Nat), v = .slice a acc.length c ∧ wr.ownsRow (w.heap.size + 2) 73 6 (.slice a acc.length c) acc.length (toksCells acc) ∧
      Cur wr (w.heap.size + 1) s p.l p.c p.o ∧ SpOk s p ∧ acc.length ≤ p.o ∧ wr.heap[w.heap.size]? = some (.cells #[.int .i64 0, .int .i64 0, .int .i64 0, .int .i64 0] 40 (0, 0)) ∧ Below w.heap.size w wr ∧ w.heap.size + 2 ≤ wr.heap.size ∧
      scanP s f p acc = some (ts, fl)) (fun _ wr => match wr.cell? ⟨w.heap.size + 1, 3, none⟩ with | some (.int _ x) => s.size + 1 - x.toNat | _ => 0)
  case atStart =>
    refine ⟨s.size + 1, ⟨1, 1, 0⟩, [], none, 0, rfl, ⟨rfl, .inl ⟨rfl, rfl⟩⟩, ?_, ⟨by decide, by decide, by decide, by decide, Nat.zero_le _⟩, Nat.le_refl _, blk_alloc (blk_new w _) _, ((Below.refl _ _).alloc (Nat.le_refl _) _).alloc (by simp) _, by simp, Hr.out⟩
    have := blk_new (w.alloc (.cells #[.int .i64 0, .int .i64 0, .int .i64 0, .int .i64 0] 40)) (.cells #[.string s, .int .i64 1, .int .i64 1, .int .i64 0] 119)
    rw [show (w.alloc (.cells #[.int .i64 0, .int .i64 0, .int .i64 0, .int .i64 0] 40)).heap.size = w.heap.size + 1 from by simp] at this
    exact this
  case round =>
    obtain ⟨f, p, acc, a, c, rfl, ho, hc, hp, hacc, hfb, hb, hsz, hsc⟩ := hrel
    obtain ⟨wo, rfl⟩ : ∃ wo : World, wo = wr := ⟨_, rfl⟩
    have HO := Lib.hid ho
    have HC := Lib.hid hc
    have HP := Lib.hid hp
    have HFB := Lib.hid hfb
    have HB := Lib.hid hb
    have Hsc := Lib.hid hsc
    have hps := hp.2.2.2.2
    clear ho hc hp hfb hb hsc
    go_wp2_with fail
    refine (space_any wo (w.heap.size + 1) s p HC.out hs2 HP.out (Utf8Tabs_below HT.out HB.out) (by omega) (by omega)).mono ?_
    rintro e w1 ⟨rfl, f1, q, hspace, hbl, hle, hq, hcq, hfr⟩
    have Hqe := Lib.hid (spaceQ_eq s p q f1 hspace)
    have HCQ := Lib.hid hcq
    have HQ := Lib.hid hq
    have HFR := Lib.hid hfr
    have hqs := hq.2.2.2.2
    have hsz1 := hfr.size
    have hne : ∀ k, (Value.slice a acc.length c).ownBlock = some k → ¬ k = w.heap.size + 1 := fun k hk => by
      rcases HO.out.2 with ⟨h0, _⟩ | ⟨g, cap, cur, hv, hg, _⟩
      · rw [h0] at hk; simp [Value.ownBlock] at hk
      · rw [hv] at hk
        have := own_eq hk
        omega
    have HO1 := Lib.hid (own_move HO.out (fun k hk => hfr.block k (by obtain ⟨cs, h⟩ := own_typed HO.out k hk; exact blk_lt h) (hne k hk)))
    have HFB1 := Lib.hid (hfr.blk HFB.out (by omega : ¬ w.heap.size = w.heap.size + 1))
    have HB1 : Hid (Below w.heap.size w w1) := Fr.toBelow HB.out hfr (fun i h => by omega) (by omega)
    clear hspace hbl hq hcq hfr hne
    go_wp2_with fail
    refine (here_any w1 (w.heap.size + 1) s q.l q.c q.o HCQ.out hs2 hqs).mono ?_
    rintro e w2 ⟨rfl, a2, rfl⟩
    obtain ⟨f, rfl⟩ : ∃ f', f = f' + 1 := by
      rcases Nat.eq_zero_or_pos f with rfl | h
      · have := Hsc.out; simp [scanP] at this
      · exact ⟨f - 1, by omega⟩
    by_cases hend : q.o = s.size
    · have hres : ts = acc ++ [⟨0, noText, 0, q.l, q.c, q.o⟩] ∧ fl = Flt.ok := by
        have := Hsc.out
        simp only [scanP, Hqe.out] at this
        rw [if_pos hend] at this
        have := Option.some.inj this
        exact ⟨(congrArg Prod.fst this).symm, (congrArg Prod.snd this).symm⟩
      have Hres := Lib.hid hres
      have hn2 : (s.extract q.o s.size).toList.isEmpty = true := by
        have : (s.extract q.o s.size).toList = [] := by rw [toList_nil, rest_size s _ hqs]; omega
        rw [this]; rfl
      generalize s.extract q.o s.size = R at *
      clear hres hend Hsc
      obtain ⟨d0, d1, d2, d3, y1, y2, y3⟩ := cur_cells HCQ.out
      go_wp2_with (first
        | (at_builtin
           refine list_tok rfl _ _ rfl (.slice a acc.length c) acc.length (toksCells acc) rfl w1.heap.size rfl ⟨0, noText, 0, q.l, q.c, q.o⟩ (w.heap.size + 2) (own_move HO1.out ?_) ?_ ?_ ?_ ?_
           · intro k hk
             exact Below.heap_alloc w1 _ k (by obtain ⟨cs, h⟩ := own_typed HO1.out k hk; exact blk_lt h)
           · simp; omega
           · exact blk_new w1 _
           · omega
           intro g cap w3 hown hgrow hat hlt
           have g1 : w3.heap[w.heap.size]? = some (.cells #[.int .i64 0, .int .i64 0, .int .i64 0, .int .i64 0] 40 (0, 0)) := (hgrow.block w.heap.size (by simp; omega) (fun e => by have := own_base HO1.out _ e.symm; omega)).trans (blk_alloc HFB1.out _)
           obtain ⟨x0, x1, x2, x3, z0, z1, z2, z3⟩ := zero_flt g1
           have Hown := Lib.hid hown
           have hb3 : Below w.heap.size w w3 := ((below_drewN HB1.out a2).alloc (by show w.heap.size ≤ w1.heap.size; omega) _).grown hgrow (by simp; omega) (fun k hk => by have := own_base HO1.out k hk; omega)
           have HB3 := Lib.hid hb3
           clear hown hgrow hat g1 hb3))
      obtain ⟨rfl, rfl⟩ := Hres.out
      have hl1 : (acc ++ [(⟨0, noText, 0, q.l, q.c, q.o⟩ : Tok)]).length = acc.length + 1 := by simp
      refine bodyPost_ret (v := .tuple #[.slice (some ⟨g, 0, none⟩) (acc.length + 1) cap, Flt.val Flt.ok]) (by simp [results, Tryz.results49, go_sem, Flt.val, Flt.ok, x0, x1, x2, x3]) rfl ?_
      refine ⟨some ⟨g, 0, none⟩, cap, by rw [hl1], ?_, ?_⟩
      · rw [hl1, toksCells_append]
        have hne : ∀ k, (Value.slice (some ⟨g, 0, none⟩) (acc.length + 1) cap).ownBlock = some k → k ≠ w.heap.size := fun k hk => by have := own_base Hown.out k hk; omega
        exact own_set (own_set (own_set (own_set (own_lower Hown.out (by omega)) _ _ hne) _ _ hne) _ _ hne) _ _ hne
      · exact (((HB3.out.setCell (Nat.le_refl _) _).setCell (Nat.le_refl _) _).setCell (Nat.le_refl _) _).setCell (Nat.le_refl _) _
    · have hrs : (s.extract q.o s.size).size = s.size - q.o := rest_size s _ hqs
      have hn2 : (s.extract q.o s.size).toList.isEmpty = false := by
        rw [List.isEmpty_eq_false_iff]
        intro h
        rw [toList_nil] at h
        omega
      have hsc : ∃ r, wordP (s.extract q.o s.size) = some r ∧ (if r.2.2 ≠ 0 then some ([], (⟨r.2.2, q.l, q.c, q.o⟩ : Flt)) else scanP s f (skipQ s q r.2.1) (acc ++ [⟨r.1.1, r.1.2, numW (s.extract q.o s.size), q.l, q.c, q.o⟩])) = some (ts, fl) := by
        have := Hsc.out
        simp only [scanP, Hqe.out] at this
        rw [if_neg hend] at this
        cases hw : wordP (s.extract q.o s.size) with
        | none => rw [hw] at this; exact absurd this (by simp)
        | some r => rw [hw] at this; exact ⟨r, rfl, this⟩
      obtain ⟨⟨⟨tk, tx⟩, tn, te⟩, hw, hsc2⟩ := hsc
      simp only at hsc2
      obtain ⟨hwl, hw1, hw2⟩ := wordP_le _ _ hw
      simp only at hwl hw1
      have Hword := Lib.hid (fun (W : World) (hT : Gl W) => word_tok (s.extract q.o s.size) W _ (by omega) hT hw)
      have Hsc2 := Lib.hid hsc2
      have Hhere := Lib.hid (fun (W : World) (h : Cur W (w.heap.size + 1) s q.l q.c q.o) => here_any W (w.heap.size + 1) s q.l q.c q.o h hs2 hqs)
      generalize numW (s.extract q.o s.size) = nw at *
      generalize s.extract q.o s.size = R at *
      clear hw hsc2 Hsc
      go_wp2_with fail
      refine (Hhere.out _ (show Cur (w1.drewN a2) _ _ _ _ _ from HCQ.out)).mono ?_
      rintro e w2 ⟨rfl, a3, rfl⟩
      go_wp2_with fail
      refine (Hword.out _ (HG.out.on (below_drewN HB1.out _))).mono ?_
      rintro e w4 ⟨rfl, hb4⟩
      have hsz4 : w1.heap.size ≤ w4.heap.size := hb4.size
      have HB4 := Lib.hid (((below_drewN HB1.out (a2 + a3)).trans (hb4.mono (by show w.heap.size ≤ w1.heap.size; omega))))
      have HC4 : Hid (Cur w4 (w.heap.size + 1) s q.l q.c q.o) := blk_below' (show (w1.drewN (a2 + a3)).heap[w.heap.size + 1]? = _ from HCQ.out) hb4
      have HFB4 := Lib.hid (blk_below' (show (w1.drewN (a2 + a3)).heap[w.heap.size]? = _ from HFB1.out) hb4)
      have HO4 := Lib.hid (own_move HO1.out (fun k hk => hb4.block k (by obtain ⟨cs, h⟩ := own_typed HO1.out k hk; exact blk_lt h)))
      have HT4 := Lib.hid (Utf8Tabs_below HT.out HB4.out)
      clear hb4
      obtain ⟨d0, d1, d2, d3, y1, y2, y3⟩ := cur_cells HC4.out
      obtain ⟨x0, x1, x2, x3, z0, z1, z2, z3⟩ := zero_flt HFB4.out
      have hq1 : w.heap.size + 1 < w4.heap.size := by omega
      have hq0 : w.heap.size < w4.heap.size := by omega
      simp only [tokW]
      by_cases he : te = 0
      · subst he
        have hw3 := hw1 rfl
        have hscf := Hsc2.out
        rw [if_neg (by simp)] at hscf
        have Hscf := Lib.hid hscf
        clear hscf Hsc2 hw1
        have hlow : ∀ k, (Value.slice a acc.length c).ownBlock = some k → k < w4.heap.size := fun k hk => by obtain ⟨cs, h⟩ := own_typed HO4.out k hk; exact blk_lt h
        have Hlow := Lib.hid hlow
        clear hlow
        go_wp2_with (first
          | (at_builtin
             refine list_tok rfl _ _ rfl (.slice a acc.length c) acc.length (toksCells acc) rfl (w4.heap.size + 1) rfl ⟨tk, tx, nw, q.l, q.c, q.o⟩ (w.heap.size + 2) (own_move HO4.out ?_) ?_ ?_ ?_ ?_
             · intro k hk
               exact (Below.heap_alloc _ _ k (by have := Hlow.out k hk; simp; omega)).trans (Below.heap_alloc w4 _ k (Hlow.out k hk))
             · simp; omega
             · have := blk_new (w4.alloc (.cells #[.int .i64 tk, .string tx, .int .i64 nw, .int .i64 q.l, .int .i64 q.c, .int .i64 (q.o : Int)] 73)) (.cells #[.int .i64 tk, .string tx, .int .i64 nw, .int .i64 q.l, .int .i64 q.c, .int .i64 (q.o : Int)] 73)
               rw [show (w4.alloc (.cells #[.int .i64 tk, .string tx, .int .i64 nw, .int .i64 q.l, .int .i64 q.c, .int .i64 (q.o : Int)] 73)).heap.size = w4.heap.size + 1 from by simp] at this
               exact this
             · omega
             intro g cap w5 hown hgrow hat hlt
             have hkeep : ∀ (b : Nat) (o : Obj), w4.heap[b]? = some o → b < w.heap.size + 2 → w5.heap[b]? = some o := fun b o h hb =>
               (hgrow.block b (by have := blk_lt h; simp; omega) (fun e => by have := own_base HO4.out _ e.symm; omega)).trans (blk_alloc (blk_alloc h _) _)
             have HC5 : Hid (Cur w5 (w.heap.size + 1) s q.l q.c q.o) := hkeep _ _ HC4.out (by omega)
             have HFB5 := Lib.hid (hkeep _ _ HFB4.out (by omega))
             have HB5 : Hid (Below w.heap.size w w5) := ((HB4.out.alloc (by omega) _).alloc (by simp; omega) _).grown hgrow (by simp; omega) (fun k hk => by have := own_base HO4.out k hk; omega)
             have Hown := Lib.hid hown
             have hsz5 : w4.heap.size ≤ w5.heap.size := by have := hgrow.size; simp at this; omega
             clear hown hgrow hat hkeep))
        refine (skip_fn w5 (w.heap.size + 1) s q tn HC5.out hs2 HQ.out (by omega) (Utf8Tabs_below HT.out HB5.out) (by omega) (by omega)).mono ?_
        rintro e w6 ⟨rfl, hc6, hok6, ho6, hfr6⟩
        have hsz6 := hfr6.size
        have HC6 := Lib.hid hc6
        have HOK6 := Lib.hid hok6
        have hne6 : ∀ k, (Value.slice (some ⟨g, 0, none⟩) (acc.length + 1) cap).ownBlock = some k → ¬ k = w.heap.size + 1 := fun k hk => by have := own_base Hown.out k hk; omega
        have HO6 := Lib.hid (own_move Hown.out (fun k hk => hfr6.block k (by obtain ⟨cs, h⟩ := own_typed Hown.out k hk; exact blk_lt h) (hne6 k hk)))
        have HFB6 := Lib.hid (hfr6.blk HFB5.out (by omega : ¬ w.heap.size = w.heap.size + 1))
        have HB6 : Hid (Below w.heap.size w w6) := Fr.toBelow HB5.out hfr6 (fun i h => by omega) (by omega)
        have hmeas := HC.out
        clear hc6 hok6 hfr6 hne6
        go_wp2_with fail
        have hl1 : (acc ++ [(⟨tk, tx, nw, q.l, q.c, q.o⟩ : Tok)]).length = acc.length + 1 := by simp
        refine ⟨⟨f, skipQ s q tn, acc ++ [⟨tk, tx, nw, q.l, q.c, q.o⟩], some ⟨g, 0, none⟩, cap, by rw [hl1], by rw [hl1, toksCells_append]; exact HO6.out, HC6.out, HOK6.out, by rw [hl1]; omega, HFB6.out, HB6.out, by omega, Hscf.out⟩, ?_⟩
        rw [(blk_cell HC6.out 3 : w6.cell? ⟨w.heap.size + 1, 3, none⟩ = _), (blk_cell HC.out 3 : wo.cell? ⟨w.heap.size + 1, 3, none⟩ = _)]
        have := HOK6.out.2.2.2.2
        simp
        omega
      · have he1 : (te != 0) = true := bne_iff_ne.2 he
        have hscf := Hsc2.out
        rw [if_pos he] at hscf
        have hres : ts = [] ∧ fl = ⟨te, q.l, q.c, q.o⟩ := by
          have := Option.some.inj hscf
          exact ⟨(congrArg Prod.fst this).symm, (congrArg Prod.snd this).symm⟩
        have Hres := Lib.hid hres
        clear hscf Hsc2 hw1 hres he
        go_wp2_with fail
        go_region
        all_goals
          go_wp2_with fail
          obtain ⟨rfl, rfl⟩ := Hres.out
          refine bodyPost_ret (v := .tuple #[.slice none 0 0, Flt.val ⟨te, q.l, q.c, q.o⟩]) (by simp [results, Tryz.results49, go_sem, Flt.val, hq0, x0, x1, x2, x3]) rfl ?_
          refine ⟨none, 0, rfl, ⟨rfl, .inl ⟨rfl, rfl⟩⟩, ?_⟩
          exact below_drew (((((HB4.out.setCell (Nat.le_refl _) _).setCell (Nat.le_refl _) _).setCell (Nat.le_refl _) _).setCell (Nat.le_refl _) _).alloc (by simp; omega) _)
end Go.Proofs.YtglnmkdlcbkpeaaGreatDoor
