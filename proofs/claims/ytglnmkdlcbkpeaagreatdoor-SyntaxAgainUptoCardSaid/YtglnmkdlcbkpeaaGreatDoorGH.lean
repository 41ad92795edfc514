/-
  dictumlaw04.heads and dictumlaw04.SyntaxPrints answer true, where Go's library's listed variables are laid.
-/
import Derived.Test.YtglnmkdlcbkpeaaGreatDoorGB
import Derived.Test.YtglnmkdlcbkpeaaGreatDoorGY
import Derived.Test.YtglnmkdlcbkpeaaGreatDoorGL
/- dictumlaw04.heads: plain. -/
set_option linter.unusedVariables false
set_option linter.unusedSimpArgs false
namespace Go.Proofs.YtglnmkdlcbkpeaaGreatDoor
open Go.RowKit

def hs1 : ByteArray := ⟨#[112, 32, 45, 62, 32, 113, 32, 38, 32, 112]⟩
def hs2 : ByteArray := ⟨#[126, 112]⟩
def hs3 : ByteArray := ⟨#[112, 32, 60, 45, 62, 32, 113]⟩
def hs4 : ByteArray := ⟨#[112, 32, 38, 32, 38, 32, 36]⟩
def hs5 : ByteArray := ⟨#[112, 32, 38, 32, 126, 113, 32, 36, 32, 114]⟩
def hP : ByteArray := ⟨#[112]⟩
def hQ : ByteArray := ⟨#[113]⟩
def hR1 : List Nd := [⟨1, hP, 0, 0⟩, ⟨1, hQ, 0, 0⟩, ⟨3, noText, 1, 0⟩, ⟨5, noText, 0, 2⟩]
def hR2 : List Nd := hR1 ++ [⟨2, noText, 0, 0⟩, ⟨5, noText, 0, 4⟩]
def hR3 : List Nd := hR2 ++ [⟨5, noText, 0, 1⟩, ⟨5, noText, 1, 0⟩, ⟨3, noText, 6, 7⟩]
def hF4 : Flt := ⟨41, 1, 5, 4⟩
def hT1 : List Tok := [⟨1, hP, 0, 0, 0, 0⟩, ⟨3, ⟨#[44]⟩, 0, 0, 0, 0⟩]
set_option maxRecDepth 100000
theorem hd1 : parseQ [] hs1 = some (3, Flt.ok, hR1) := by kernel_rfl
theorem hd2 : parseQ hR1 hs2 = some (5, Flt.ok, hR2) := by kernel_rfl
theorem hd3 : parseQ hR2 hs3 = some (8, Flt.ok, hR3) := by kernel_rfl
theorem hd4 : parseQ hR3 hs4 = some (0, hF4, hR3) := by kernel_rfl
theorem hd5 : printR hR3 8 = ([40, 112, 32, 45, 62, 32, 113, 41, 32, 38, 32, 40, 113, 32, 45, 62, 32, 112, 41], 0) := by kernel_rfl
theorem hd6 : takeT hR3 hT1 = ⟨0, 1, Flt.ok, hR3⟩ := by kernel_rfl
theorem hd7 : (aheadQ hs5).map (fun x => countL x.1) = some 4 := by kernel_rfl
theorem hok3 : okRows hR3 := by
  intro i hi
  have h9 : i < 9 := hi
  have : i = 0 ∨ i = 1 ∨ i = 2 ∨ i = 3 ∨ i = 4 ∨ i = 5 ∨ i = 6 ∨ i = 7 ∨ i = 8 := by omega
  rcases this with rfl | rfl | rfl | rfl | rfl | rfl | rfl | rfl | rfl
  all_goals (change putR _ _ = _; kernel_rfl)
theorem hok1 : okRows hR1 := by
  intro i hi
  have h9 : i < 4 := hi
  have : i = 0 ∨ i = 1 ∨ i = 2 ∨ i = 3 := by omega
  rcases this with rfl | rfl | rfl | rfl
  all_goals (change putR _ _ = _; kernel_rfl)
theorem hok2 : okRows hR2 := by
  intro i hi
  have h9 : i < 6 := hi
  have : i = 0 ∨ i = 1 ∨ i = 2 ∨ i = 3 ∨ i = 4 ∨ i = 5 := by omega
  rcases this with rfl | rfl | rfl | rfl | rfl | rfl
  all_goals (change putR _ _ = _; kernel_rfl)

/-- A table under way, and faults that were told. -/
def HS (w w1 : World) (p : Nat) (rows : List Nd) (bx : List (Nat × Flt)) : Prop :=
  ∃ F : Nat → Prop, Tab w1 p rows F ∧ (∀ k, F k → w.heap.size ≤ k ∧ k < w1.heap.size) ∧ Below w.heap.size w w1 ∧ ∀ x ∈ bx, ¬ F x.1 ∧ w1.heap[x.1]? = some (.cells x.2.arr 40 (0, 0))
theorem HS.below {w w1 w2 : World} {p : Nat} {rows : List Nd} {bx : List (Nat × Flt)} (h : HS w w1 p rows bx) (hb : Below w1.heap.size w1 w2) : HS w w2 p rows bx := by
  obtain ⟨F, h1, h2, h3, h4⟩ := h
  exact ⟨F, h1.below hb, fun k hk => ⟨(h2 k hk).1, Nat.lt_of_lt_of_le (h2 k hk).2 hb.size⟩, h3.trans (hb.mono h3.size), fun x hx => ⟨(h4 x hx).1, blk_below' (h4 x hx).2 hb⟩⟩
theorem HS.box {w w1 : World} {p : Nat} {rows : List Nd} {bx : List (Nat × Flt)} (h : HS w w1 p rows bx) (f : Flt) : HS w (w1.alloc (.cells f.arr 40 (0, 0))) p rows ((w1.heap.size, f) :: bx) := by
  obtain ⟨F, h1, h2, h3, h4⟩ := h
  have hb : Below w1.heap.size w1 (w1.alloc (.cells f.arr 40 (0, 0))) := (Below.refl _ _).alloc (Nat.le_refl _) _
  refine ⟨F, h1.below hb, fun k hk => ⟨(h2 k hk).1, Nat.lt_of_lt_of_le (h2 k hk).2 hb.size⟩, h3.trans (hb.mono h3.size), fun x hx => ?_⟩
  rcases List.mem_cons.1 hx with rfl | hx
  · exact ⟨fun hF => by have := (h2 _ hF).2; simp at this, blk_new w1 _⟩
  · exact ⟨(h4 x hx).1, blk_below' (h4 x hx).2 hb⟩
theorem HS.drop {w w1 : World} {p : Nat} {rows : List Nd} {x : Nat × Flt} {bx : List (Nat × Flt)} (h : HS w w1 p rows (x :: bx)) : HS w w1 p rows bx := by
  obtain ⟨F, h1, h2, h3, h4⟩ := h
  exact ⟨F, h1, h2, h3, fun y hy => h4 y (by simp [hy])⟩
theorem HS.at_ {w w1 : World} {p : Nat} {rows : List Nd} {bx : List (Nat × Flt)} (h : HS w w1 p rows bx) (b : Nat) (f : Flt) (hm : (b, f) ∈ bx) :
    w1.cell? ⟨b, 0, none⟩ = some (.int .i64 f.e) ∧ w1.cell? ⟨b, 1, none⟩ = some (.int .i64 f.l) ∧ w1.cell? ⟨b, 2, none⟩ = some (.int .i64 f.c) ∧ w1.cell? ⟨b, 3, none⟩ = some (.int .i64 f.o) := by
  obtain ⟨F, h1, h2, h3, h4⟩ := h
  have hb := (h4 _ hm).2
  exact ⟨(blk_cell hb 0).trans rfl, (blk_cell hb 1).trans rfl, (blk_cell hb 2).trans rfl, (blk_cell hb 3).trans rfl⟩
theorem hs_move {w w1 w2 : World} {p : Nat} {rows' : List Nd} {bx : List (Nat × Flt)} {F : Nat → Prop} (h2 : ∀ k, F k → w.heap.size ≤ k ∧ k < w1.heap.size) (h3 : Below w.heap.size w w1) (h4 : ∀ x ∈ bx, ¬ F x.1 ∧ w1.heap[x.1]? = some (.cells x.2.arr 40 (0, 0)))
    (hT : Tab w2 p rows' (fun k => F k ∨ w1.heap.size ≤ k)) (hf : Fr F w1 w2) : HS w w2 p rows' bx := by
  have hs := hf.size
  refine ⟨_, hT.bound, fun k hk => ⟨?_, hk.2⟩, Fr.toBelow h3 hf (fun i hi => (h2 i hi).1) h3.size, fun x hx => ⟨?_, hf.blk (h4 x hx).2 (h4 x hx).1⟩⟩
  · rcases hk.1 with h | h
    · exact (h2 k h).1
    · have := h3.size; omega
  · rintro ⟨h | h, _⟩
    · exact (h4 x hx).1 h
    · have := blk_lt (h4 x hx).2; omega
theorem parse_hs (w w1 : World) (p : Nat) (rows : List Nd) (bx : List (Nat × Flt)) (s : ByteArray) (v : Int) (f : Flt) (rows' : List Nd) (h : HS w w1 p rows bx) (hl : rows.length ≤ 1024) (hd : rows.Nodup) (hs : s.size ≤ 1099511627000) (hT : Gl w) (hr : parseQ rows s = some (v, f, rows')) :
    Calls Tryz.prog 12 #[.pointer (some ⟨p, 0, none⟩), .string s] w1 fun e w2 => e = .returned (.tuple #[.int .i64 v, f.val]) ∧ HS w w2 p rows' bx := by
  obtain ⟨F, h1, h2, h3, h4⟩ := h
  refine (parse_any w1 p rows F s _ h1 hl hd hs (hT.on h3) hr).mono ?_
  rintro e w2 ⟨rfl, k1, k2⟩
  exact ⟨rfl, hs_move h2 h3 h4 k1 k2⟩
theorem print_hs (w w1 : World) (p : Nat) (rows : List Nd) (bx : List (Nat × Flt)) (id : Int) (x : List UInt8 × Int) (h : HS w w1 p rows bx) (hl : rows.length ≤ 1024) (hok : okRows rows) (hx : printR rows id = x) :
    Calls Tryz.prog 6 #[.pointer (some ⟨p, 0, none⟩), .int .i64 id] w1 fun e w2 => e = .returned (.tuple #[.string ⟨x.1.toArray⟩, .int .i64 x.2]) ∧ HS w w2 p rows bx := by
  obtain ⟨F, h1, h2, h3, h4⟩ := (fun (x : HS w w1 p rows bx) => x) h
  subst hx
  refine (print_tab w1 p rows F id h1 hl (nodup_of_ok hok) (wf_of_ok hok) (sz_of_ok hok)).mono ?_
  rintro e w2 ⟨rfl, hb⟩
  exact ⟨rfl, h.below hb⟩
theorem len_hs (w w1 : World) (p : Nat) (rows : List Nd) (bx : List (Nat × Flt)) (h : HS w w1 p rows bx) :
    Calls Tryz.prog 14 #[.pointer (some ⟨p, 0, none⟩)] w1 fun e w2 => e = .returned (.int .i64 rows.length) ∧ w1 = w2 := by
  obtain ⟨F, h1, h2, h3, h4⟩ := h
  exact len_tab w1 p rows F h1
theorem take_hs (w w1 : World) (p : Nat) (rows : List Nd) (bx : List (Nat × Flt)) (b lc : Nat) (ts : List Tok) (x : TkR) (h : HS w w1 p rows bx) (hl : rows.length ≤ 1024) (hd : rows.Nodup)
    (hb : b = w1.heap.size) (hlen : ts.length ≤ 1099511627000) (htok : ∀ t ∈ ts, t.ok) (hx : takeT rows ts = x) (n : Nat) (hn : n = ts.length) :
    Calls Tryz.prog 25 #[.pointer (some ⟨p, 0, none⟩), .slice (some ⟨b, 0, none⟩) n lc] (w1.alloc (.cells (toksCells ts).toArray 73 (0, 0))) fun e w2 => e = .returned (.tuple #[.int .i64 x.v, .int .i64 x.n, x.f.val]) ∧ HS w w2 p x.rows bx := by
  obtain ⟨F, h1, h2, h3, h4⟩ := h
  subst hx
  subst hb
  subst hn
  have hba : Below w1.heap.size w1 (w1.alloc (.cells (toksCells ts).toArray 73 (0, 0))) := (Below.refl _ _).alloc (Nat.le_refl _) _
  have hh : HS w (w1.alloc (.cells (toksCells ts).toArray 73 (0, 0))) p rows bx := HS.below ⟨F, h1, h2, h3, h4⟩ hba
  refine (taken_any _ p rows F (some ⟨w1.heap.size, 0, none⟩) lc ts (h1.below hba) hl hd (fun _ => ⟨_, 0, rfl, by simp, fun j u hu => ?_⟩) (fun a ha => by cases ha; exact fun hF => by have := (h2 _ hF).2; simp at this) hlen htok).mono ?_
  · rw [blk_cell (blk_new w1 _)]
    simpa using hu
  · rintro e w2 ⟨rfl, k1, k2⟩
    refine ⟨rfl, hs_move (w1 := w1.alloc (.cells (toksCells ts).toArray 73 (0, 0))) (fun k hk => ⟨(h2 k hk).1, by have := (h2 k hk).2; simp; omega⟩) (h3.trans (hba.mono h3.size)) (fun x hx => ⟨(h4 x hx).1, blk_below' (h4 x hx).2 hba⟩) k1 k2⟩
end Go.Proofs.YtglnmkdlcbkpeaaGreatDoor
/- dictumlaw04.heads. -/
set_option linter.unusedVariables false
set_option linter.unusedSimpArgs false
namespace Go.Proofs.YtglnmkdlcbkpeaaGreatDoor
open Go.RowKit

theorem eq_zero_flt (W : World) : (binOp .eql 40 (.agg #[.int .i64 0, .int .i64 0, .int .i64 0, .int .i64 0]) (.agg #[.int .i64 0, .int .i64 0, .int .i64 0, .int .i64 0])).run Tryz.prog W = .ok (.bool true) W := by kernel_rfl
theorem eq_41_flt (W : World) : (binOp .eql 40 (.agg #[.int .i64 41, .int .i64 1, .int .i64 5, .int .i64 4]) (.agg #[.int .i64 41, .int .i64 1, .int .i64 5, .int .i64 4])).run Tryz.prog W = .ok (.bool true) W := by kernel_rfl
theorem hTok : ∀ t ∈ hT1, t.ok := by
  intro t ht
  simp only [hT1, List.mem_cons, List.not_mem_nil, or_false] at ht
  rcases ht with rfl | rfl
  · show hP.size ≤ _
    decide
  · show (⟨#[44]⟩ : ByteArray).size ≤ _
    decide
set_option maxRecDepth 100000 in
set_option maxHeartbeats 4000000 in
theorem heads_any (w : World) (hT : Gl w) :
    Calls Tryz.prog 10 #[] w fun e w' => e = .returned (.bool true) ∧ Below w.heap.size w w' := by
  have HT := Lib.hid hT
  have q0 := eq_zero_flt
  have q4 := eq_41_flt
  have HQ0 := Lib.hid q0
  have HQ4 := Lib.hid q4
  clear hT q0 q4
  go_enter Tryz.func10, Tryz.ntmps10
  go_wp2_with fail
  refine (new_any w).mono ?_
  rintro e w1 ⟨rfl, hT0, hb0⟩
  have H0 : Hid (HS w w1 (w.heap.size + 1) [] []) := Lib.hid ⟨_, hT0.bound, fun k hk => hk, hb0, fun x hx => by simp at hx⟩
  clear hT0 hb0
  generalize w.heap.size + 1 = p at *
  go_wp2_with fail
  refine (parse_hs w _ p [] [] hs1 3 Flt.ok hR1 (by exact H0.out) (by decide) List.nodup_nil (by decide) HT.out hd1).mono ?_
  rintro e w2 ⟨rfl, h⟩
  have Hw2 := Lib.hid h
  clear h
  simp only [Flt.val, Flt.ok, hF4] at *
  go_wp2_with fail
  refine (parse_hs w _ p hR1 [(w2.heap.size, Flt.ok)] hs2 5 Flt.ok hR2 (by exact Hw2.out.box Flt.ok) (by decide) (nodup_of_ok hok1) (by decide) HT.out hd2).mono ?_
  rintro e w3 ⟨rfl, h⟩
  have Hw3 := Lib.hid h
  clear h
  simp only [Flt.val, Flt.ok, hF4] at *
  go_wp2_with fail
  refine (parse_hs w _ p hR2 [(w3.heap.size, Flt.ok), (w2.heap.size, Flt.ok)] hs3 8 Flt.ok hR3 (by exact Hw3.out.box Flt.ok) (by decide) (nodup_of_ok hok2) (by decide) HT.out hd3).mono ?_
  rintro e w4 ⟨rfl, h⟩
  have Hw4 := Lib.hid h
  clear h
  simp only [Flt.val, Flt.ok, hF4] at *
  go_wp2_with fail
  refine (print_hs w _ p hR3 [(w4.heap.size, Flt.ok), (w3.heap.size, Flt.ok), (w2.heap.size, Flt.ok)] 8 _ (by exact Hw4.out.box Flt.ok) (by decide) hok3 hd5).mono ?_
  rintro e w5 ⟨rfl, h⟩
  have Hw5 := Lib.hid h
  clear h
  simp only at *
  go_wp2_with fail
  refine (parse_hs w _ p hR3 [(w4.heap.size, Flt.ok), (w3.heap.size, Flt.ok), (w2.heap.size, Flt.ok)] hs4 0 hF4 hR3 (by exact Hw5.out) (by decide) (nodup_of_ok hok3) (by decide) HT.out hd4).mono ?_
  rintro e w6 ⟨rfl, h⟩
  have Hw6 := Lib.hid h
  clear h
  simp only [Flt.val, Flt.ok, hF4] at *
  go_wp2_with fail
  refine (take_hs w (w6.alloc (.cells hF4.arr 40 (0, 0))) p hR3 [(w6.heap.size, hF4), (w4.heap.size, Flt.ok), (w3.heap.size, Flt.ok), (w2.heap.size, Flt.ok)] (w6.heap.size + 1) 2 hT1 _ (by exact Hw6.out.box hF4) (by decide) (nodup_of_ok hok3) (by simp) (by decide) hTok hd6 2 rfl).mono ?_
  rintro e w7 ⟨rfl, h⟩
  have Hw7 := Lib.hid h
  clear h
  obtain ⟨a0, a1, a2, a3⟩ := Hw7.out.at_ w2.heap.size Flt.ok (by simp)
  obtain ⟨b0, b1, b2, b3⟩ := Hw7.out.at_ w3.heap.size Flt.ok (by simp)
  obtain ⟨c0, c1, c2, c3⟩ := Hw7.out.at_ w4.heap.size Flt.ok (by simp)
  obtain ⟨d0, d1, d2, d3⟩ := Hw7.out.at_ w6.heap.size hF4 (by simp)
  simp only [Flt.ok, hF4] at a0 a1 a2 a3 b0 b1 b2 b3 c0 c1 c2 c3 d0 d1 d2 d3
  have la := World.block_lt_of_cell? _ _ a0
  have lb := World.block_lt_of_cell? _ _ b0
  have lc := World.block_lt_of_cell? _ _ c0
  have ld := World.block_lt_of_cell? _ _ d0
  have H8 := Lib.hid (Hw7.out.box Flt.ok)
  simp only at la lb lc ld
  simp only [Flt.val, Flt.ok, hF4] at *
  have q0 := HQ0.out
  have q4 := HQ4.out
  have hc7 := hd7
  cases hah : aheadQ hs5 with
  | none => rw [hah] at hc7; cases hc7
  | some y =>
    obtain ⟨ts, fl⟩ := y
    rw [hah] at hc7
    have hcl : countL ts = 4 := by simpa using hc7
    have Hah := Lib.hid hah
    have Hcl := Lib.hid hcl
    have HB8 : Hid (Below w.heap.size w (w7.alloc (.cells #[.int .i64 0, .int .i64 0, .int .i64 0, .int .i64 0] 40))) := Lib.hid (by obtain ⟨F, _, _, h3, _⟩ := H8.out; exact h3)
    clear hah hc7 hcl
    have hL : Hid (Calls Tryz.prog 14 #[.pointer (some ⟨p, 0, none⟩)] (w7.alloc (.cells #[.int .i64 0, .int .i64 0, .int .i64 0, .int .i64 0] 40)) fun e w2 => e = .returned (.int .i64 9) ∧ (w7.alloc (.cells #[.int .i64 0, .int .i64 0, .int .i64 0, .int .i64 0] 40)) = w2) := Lib.hid (len_hs w _ p hR3 _ H8.out)
    have hs8 := HB8.out.size
    go_wp2_with (first
      | (go_at_call 8; (with_reducible refine (num_any _ _).mono ?_); rintro e w9 ⟨rfl, rfl⟩))
    refine hL.out.mono ?_
    rintro e w9 ⟨rfl, rfl⟩
    go_wp2_with fail
    refine (count_any hs5 _ ts fl (by decide) (HT.out.on HB8.out) Hah.out).mono ?_
    rintro e w9 ⟨rfl, hb9⟩
    have HB9 := Lib.hid (HB8.out.trans (hb9.mono hs8))
    rw [Hcl.out]
    clear hb9
    go_wp2_with fail
    go_ret
    exact ⟨rfl, HB9.out⟩
end Go.Proofs.YtglnmkdlcbkpeaaGreatDoor
/- dictumlaw04.SyntaxPrints. -/
set_option linter.unusedVariables false
set_option linter.unusedSimpArgs false
namespace Go.Proofs.YtglnmkdlcbkpeaaGreatDoor
open Go.RowKit

set_option maxRecDepth 100000 in
set_option maxHeartbeats 4000000 in
theorem prints_any (w : World) (a : Option Addr) (c : Nat) (rows : List Nd) (id : Int) (hS : Sl w a rows) (hnm : ∀ d ∈ rows, d.s.size ≤ 140737488355328) (hnil : a = none → rows = [] ∧ c = 0)
    (hT : Gl w) :
    Calls Tryz.prog 3 #[.slice a rows.length c, .int .i64 id] w fun e w' => e = .returned (.bool true) ∧ Below w.heap.size w w' := by
  have HT := Lib.hid hT
  have HC := Lib.hid (tables_any w a c rows hS hnm hnil)
  clear hT hS hnm hnil
  go_enter Tryz.func3, Tryz.ntmps3
  go_wp2_with fail
  refine HC.out.mono ?_
  rintro e w1 ⟨p, q, rs, rfl, F, G, hF, hG, _, _, _, hok, hl, hb1⟩
  have HF := Lib.hid hF
  have HG := Lib.hid hG
  have Hok := Lib.hid hok
  have HB1 := Lib.hid hb1
  have hs1 := hb1.size
  clear hF hG hok hb1 HC
  go_wp2_with fail
  refine (print_tab w1 p rs F id HF.out hl (nodup_of_ok Hok.out) (wf_of_ok Hok.out) (sz_of_ok Hok.out)).mono ?_
  rintro e w2 ⟨rfl, hb2⟩
  have HB2 := Lib.hid hb2
  have hs2 := hb2.size
  clear hb2
  go_wp2_with fail
  refine (print04 w2 q rs G id (HG.out.below HB2.out) hl (wf_of_ok Hok.out) (kd_of_ok Hok.out) (sz_of_ok Hok.out)).mono ?_
  rintro e w3 ⟨rfl, hb3⟩
  have HB3 := Lib.hid (HB2.out.trans (hb3.mono hs2))
  have hs3 := HB3.out.size
  have HB3w := Lib.hid (HB1.out.trans (HB3.out.mono hs1))
  clear hb3
  generalize printR rs id = x at *
  obtain ⟨s, k⟩ := x
  simp only at *
  generalize (⟨s.toArray⟩ : ByteArray) = S at *
  go_wp2_with (go_at_call 8; (with_reducible refine (num_any _ _).mono ?_); rintro e w9 ⟨rfl, rfl⟩)
  refine (like_tab w3 p q rs F G (HF.out.below HB3.out) (HG.out.below HB3.out) hl).mono ?_
  rintro e w4 ⟨rfl, hb4⟩
  have HB4 := Lib.hid (HB3w.out.trans (hb4.mono HB3w.out.size))
  have hs4 := HB4.out.size
  clear hb4
  go_wp2_with fail
  refine (heads_any w4 (HT.out.on HB4.out)).mono ?_
  rintro e w5 ⟨rfl, hb5⟩
  have HB5 := Lib.hid (HB4.out.trans (hb5.mono hs4))
  clear hb5
  go_wp2_with fail
  go_ret
  exact ⟨rfl, HB5.out⟩
end Go.Proofs.YtglnmkdlcbkpeaaGreatDoor
