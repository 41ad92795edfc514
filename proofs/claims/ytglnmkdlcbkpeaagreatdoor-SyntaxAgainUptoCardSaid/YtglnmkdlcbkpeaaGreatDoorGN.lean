/-
  dictumlaw04.SyntaxAgain answers true for texts of at most 1099511627000 bytes, where Go's library's listed variables are laid.
-/
import Derived.Test.YtglnmkdlcbkpeaaGreatDoorGM
import Derived.Test.YtglnmkdlcbkpeaaGreatDoorGH
/- A table under way, beside a slice of rows that was told before. -/
set_option linter.unusedVariables false
set_option linter.unusedSimpArgs false
namespace Go.Proofs.YtglnmkdlcbkpeaaGreatDoor
open Go.RowKit

theorem Sl.fr {w w1 : World} {S : Nat → Prop} {a : Option Addr} {rows : List Nd} (h : Sl w a rows) (hf : Fr S w w1) (hn : 0 < rows.length → ∀ q, a = some q → ¬ S q.block) : Sl w1 a rows :=
  ⟨h.1, fun h0 => by
    obtain ⟨b, off, e, hl, hc⟩ := h.2 h0
    exact ⟨b, off, e, Nat.lt_of_lt_of_le hl hf.size, fun j u hu => (World.cell?_of_block (hf.block b hl (hn h0 _ e))).trans (hc j u hu)⟩⟩
theorem Sl.pre {w : World} {a : Option Addr} {rows R : List Nd} (h : Sl w a R) (hp : rows <+: R) : Sl w a rows := by
  obtain ⟨tl, rfl⟩ := hp
  refine ⟨by have := h.1; simp at this; omega, fun h0 => ?_⟩
  obtain ⟨b, off, e, hl, hc⟩ := h.2 (by simp; omega)
  refine ⟨b, off, e, hl, fun j u hu => hc j u ?_⟩
  have : cellsOf (rows ++ tl) = cellsOf rows ++ cellsOf tl := by simp [cellsOf]
  rw [this, List.getElem?_append_left (List.getElem?_eq_some_iff.1 hu).1]
  exact hu
theorem own_len {w : World} {base size n c : Nat} {e : TypeId} {a : Option Addr} {xs : List Value} (h : w.ownsRow base e size (.slice a n c) n xs) : n ≤ c ∧ c ≤ maxLen := by
  rcases h.2 with ⟨h1, h2⟩ | ⟨g, cap, cur, h1, _, _, h3, h4, _⟩
  · cases h1; exact ⟨Nat.le_refl _, by decide⟩
  · cases h1; exact ⟨h3, h4⟩
def AS (w w1 : World) (p : Nat) (rows : List Nd) (bx : List (Nat × Flt)) (a : Option Addr) (rs : List Nd) : Prop :=
  ∃ F : Nat → Prop, Tab w1 p rows F ∧ (∀ k, F k → w.heap.size ≤ k ∧ k < w1.heap.size) ∧ Below w.heap.size w w1 ∧ (∀ x ∈ bx, ¬ F x.1 ∧ w1.heap[x.1]? = some (.cells x.2.arr 40 (0, 0))) ∧
    Sl w1 a rs ∧ (0 < rs.length → ∀ q, a = some q → ¬ F q.block)
section
variable {w w1 w2 : World} {p : Nat} {rows rs : List Nd} {bx : List (Nat × Flt)} {a : Option Addr}
theorem AS.low (h : AS w w1 p rows bx a rs) : Below w.heap.size w w1 := by obtain ⟨_, _, _, h3, _⟩ := h; exact h3
theorem AS.sl (h : AS w w1 p rows bx a rs) : Sl w1 a rs := by obtain ⟨_, _, _, _, _, h5, _⟩ := h; exact h5
theorem AS.below (h : AS w w1 p rows bx a rs) (hb : Below w1.heap.size w1 w2) : AS w w2 p rows bx a rs := by
  obtain ⟨F, h1, h2, h3, h4, h5, h6⟩ := h
  exact ⟨F, h1.below hb, fun k hk => ⟨(h2 k hk).1, Nat.lt_of_lt_of_le (h2 k hk).2 hb.size⟩, h3.trans (hb.mono h3.size), fun x hx => ⟨(h4 x hx).1, blk_below' (h4 x hx).2 hb⟩, h5.below hb, h6⟩
theorem AS.box (h : AS w w1 p rows bx a rs) (f : Flt) : AS w (w1.alloc (.cells f.arr 40 (0, 0))) p rows ((w1.heap.size, f) :: bx) a rs := by
  have hb : Below w1.heap.size w1 (w1.alloc (.cells f.arr 40 (0, 0))) := (Below.refl _ _).alloc (Nat.le_refl _) _
  obtain ⟨F, h1, h2, h3, h4, h5, h6⟩ := h
  refine ⟨F, h1.below hb, fun k hk => ⟨(h2 k hk).1, Nat.lt_of_lt_of_le (h2 k hk).2 hb.size⟩, h3.trans (hb.mono h3.size), fun x hx => ?_, h5.below hb, h6⟩
  rcases List.mem_cons.1 hx with rfl | hx
  · exact ⟨fun hF => by have := (h2 _ hF).2; simp at this, blk_new w1 _⟩
  · exact ⟨(h4 x hx).1, blk_below' (h4 x hx).2 hb⟩
theorem AS.at_ (h : AS w w1 p rows bx a rs) (b : Nat) (f : Flt) (hm : (b, f) ∈ bx) :
    w1.cell? ⟨b, 0, none⟩ = some (.int .i64 f.e) ∧ w1.cell? ⟨b, 1, none⟩ = some (.int .i64 f.l) ∧ w1.cell? ⟨b, 2, none⟩ = some (.int .i64 f.c) ∧ w1.cell? ⟨b, 3, none⟩ = some (.int .i64 f.o) := by
  obtain ⟨F, h1, h2, h3, h4, _⟩ := h
  have hb := (h4 _ hm).2
  exact ⟨(blk_cell hb 0).trans rfl, (blk_cell hb 1).trans rfl, (blk_cell hb 2).trans rfl, (blk_cell hb 3).trans rfl⟩
theorem as_parse (h : AS w w1 p rows bx a rs) (s : ByteArray) (v : Int) (f : Flt) (R : List Nd) (hk : okT rows) (hs : s.size ≤ 1099511627000) (hT : Gl w) (hr : parseQ rows s = some (v, f, R)) :
    Calls Tryz.prog 12 #[.pointer (some ⟨p, 0, none⟩), .string s] w1 fun e w2 => e = .returned (.tuple #[.int .i64 v, f.val]) ∧ AS w w2 p R bx a rs := by
  obtain ⟨F, h1, h2, h3, h4, h5, h6⟩ := h
  refine (parse_any w1 p rows F s _ h1 hk.2 (nodup_of_ok hk.1) hs (hT.on h3) hr).mono ?_
  rintro e w2 ⟨rfl, k1, k2⟩
  have hsz := k2.size
  have hlt : 0 < rs.length → ∀ q, a = some q → q.block < w1.heap.size := fun h0 q hq => by
    obtain ⟨b, off, e, hl, _⟩ := h5.2 h0
    rw [e] at hq; cases hq; exact hl
  refine ⟨rfl, _, k1.bound, fun k hk => ⟨?_, hk.2⟩, Fr.toBelow h3 k2 (fun i hi => (h2 i hi).1) h3.size, fun x hx => ⟨?_, k2.blk (h4 x hx).2 (h4 x hx).1⟩, h5.fr k2 h6, fun h0 q hq => ?_⟩
  · rcases hk.1 with h | h
    · exact (h2 k h).1
    · have := h3.size; omega
  · rintro ⟨h | h, _⟩
    · exact (h4 x hx).1 h
    · have := blk_lt (h4 x hx).2; omega
  · rintro ⟨h | h, _⟩
    · exact h6 h0 q hq h
    · have := hlt h0 q hq; omega
theorem as_rows (h : AS w w1 p rows bx a rs) (hl : rows.length ≤ 1024) :
    Calls Tryz.prog 11 #[.pointer (some ⟨p, 0, none⟩)] w1 fun e w2 => ∃ a2 c2, e = .returned (.slice a2 rows.length c2) ∧ Sl w2 a2 rows ∧ rows.length ≤ c2 ∧ c2 ≤ maxLen ∧ AS w w2 p rows bx a rs := by
  obtain ⟨F, h1, h2, h3, h4, h5, h6⟩ := (fun (x : AS w w1 p rows bx a rs) => x) h
  refine (rows_tab w1 p rows F h1 hl).mono ?_
  rintro e w2 ⟨a2, c2, rfl, ho, hb⟩
  exact ⟨a2, c2, rfl, Sl.of_own ho (by omega), (own_len ho).1, (own_len ho).2, h.below hb⟩
theorem as_len (h : AS w w1 p rows bx a rs) :
    Calls Tryz.prog 14 #[.pointer (some ⟨p, 0, none⟩)] w1 fun e w2 => e = .returned (.int .i64 rows.length) ∧ w1 = w2 := by
  obtain ⟨F, h1, _⟩ := h
  exact len_tab w1 p rows F h1
theorem as_first {F : Nat → Prop} (hT : Tab w1 p rs F) (hF : ∀ k, F k → w.heap.size ≤ k) (hb : Below w.heap.size w w1) (hl : rs.length ≤ 1024) :
    Calls Tryz.prog 11 #[.pointer (some ⟨p, 0, none⟩)] w1 fun e w2 => ∃ a2 c2, e = .returned (.slice a2 rs.length c2) ∧ rs.length ≤ c2 ∧ c2 ≤ maxLen ∧ AS w w2 p rs [] a2 rs := by
  refine (rows_tab w1 p rs F hT hl).mono ?_
  rintro e w2 ⟨a2, c2, rfl, ho, hb2⟩
  have hsz := hb2.size
  refine ⟨a2, c2, rfl, (own_len ho).1, (own_len ho).2, (fun k => F k ∧ k < w1.heap.size), hT.bound.below hb2, fun k hk => ⟨hF k hk.1, by have := hk.2; omega⟩, hb.trans (hb2.mono hb.size), fun x hx => by simp at hx, Sl.of_own ho (by omega), fun h0 q hq hk => ?_⟩
  have := own_base ho q.block (by rw [hq]; rfl)
  have := hk.2
  omega
end
theorem neq_flt (e l c o : Int) (h : e ≠ 0) (W : World) : (binOp .neq 40 (.agg #[.int .i64 e, .int .i64 l, .int .i64 c, .int .i64 o]) (.agg #[.int .i64 0, .int .i64 0, .int .i64 0, .int .i64 0])).run Tryz.prog W = .ok (.bool true) W := by
  have h1 : (Op.equalIn (9998 + 2) 40 (.agg #[.int .i64 e, .int .i64 l, .int .i64 c, .int .i64 o]) (.agg #[.int .i64 0, .int .i64 0, .int .i64 0, .int .i64 0])).run Tryz.prog W = .ok false W := by
    simp [go_sem, h]
  rw [run_neq_struct, h1]
  rfl
theorem same_flt (W : World) : (binOp .neq 40 (.agg #[.int .i64 0, .int .i64 0, .int .i64 0, .int .i64 0]) (.agg #[.int .i64 0, .int .i64 0, .int .i64 0, .int .i64 0])).run Tryz.prog W = .ok (.bool false) W := by kernel_rfl
theorem par_text (s : ByteArray) : Par s (⟨#[40]⟩ ++ s ++ ⟨#[10, 41]⟩) := by
  show (⟨#[40]⟩ ++ s ++ ⟨#[10, 41]⟩ : ByteArray).data.toList = _
  simp [tl2]
end Go.Proofs.YtglnmkdlcbkpeaaGreatDoor
/- dictumlaw04.SyntaxAgain. -/
set_option linter.unusedVariables false
set_option linter.unusedSimpArgs false
namespace Go.Proofs.YtglnmkdlcbkpeaaGreatDoor
open Go.RowKit

set_option maxRecDepth 100000 in
set_option maxHeartbeats 8000000 in
theorem again_any (w : World) (a : Option Addr) (c : Nat) (rows : List Nd) (s : ByteArray) (hS : Sl w a rows) (hnm : ∀ d ∈ rows, d.s.size ≤ 140737488355328) (hnil : a = none → rows = [] ∧ c = 0) (hs : s.size ≤ 1099511627000) (hT : Gl w) :
    Calls Tryz.prog 4 #[.slice a rows.length c, .string s] w fun e w' => e = .returned (.bool true) ∧ Below w.heap.size w w' := by
  have HT := Lib.hid hT
  have HC := Lib.hid (tables_any w a c rows hS hnm hnil)
  have HQ0 := Lib.hid same_flt
  clear hT hS hnm hnil
  go_enter Tryz.func4, Tryz.ntmps4
  go_wp2_with fail
  refine HC.out.mono ?_
  rintro e w1 ⟨p, q, rs, rfl, F, G, hF, hG, _, hFlo, _, hok, hl, hb1⟩
  have hrows := Lib.hid (as_first hF hFlo hb1 hl)
  have Hok : Hid (okT rs) := Lib.hid ⟨hok, hl⟩
  clear hF hG hFlo hok hb1 HC
  go_wp2_with fail
  refine hrows.out.mono ?_
  rintro e w2 ⟨a2, c2, rfl, hc1, hc2, h⟩
  have H2 := Lib.hid h
  clear h hrows
  obtain ⟨⟨v, f, R⟩, hx⟩ := parseQ_some rs s
  have Hx := Lib.hid hx
  have Htab := Lib.hid (parse_table hx Hok.out)
  clear hx
  have hRl := Htab.out.1.2
  have hpre := Htab.out.2.length_le
  go_wp2_with fail
  refine (as_parse H2.out s v f R Hok.out hs HT.out Hx.out).mono ?_
  rintro e w3 ⟨rfl, h⟩
  have H3 := Lib.hid (h.box f)
  clear h H2
  have hfo : (f.e ≠ 0 ∧ v = 0 ∧ R = rs) ∨ f = Flt.ok := by
    rcases parseQ_inv Hx.out with h | h
    · exact .inl h
    · exact .inr h.1
  simp only [Flt.val]
  rcases hfo with ⟨hfe, rfl, rfl⟩ | rfl
  · have hne : ¬ f.e = 0 := hfe
    go_wp2_with fail
    refine (as_rows H3.out hl).mono ?_
    rintro e w4 ⟨a4, c4, rfl, S4, hd1, hd2, h⟩
    have H4 := Lib.hid h
    have HS4 := Lib.hid S4
    clear h S4
    go_wp2_with fail
    refine (same_true w4 _ _ _ _ _ H4.out.sl HS4.out).mono ?_
    rintro e w5 ⟨rfl, hb⟩
    have H5 := Lib.hid (H4.out.below hb)
    clear hb
    go_wp2_with fail
    refine (heads_any w5 (HT.out.on H5.out.low)).mono ?_
    rintro e w6 ⟨rfl, hb⟩
    have HB6 := Lib.hid (H5.out.low.trans (hb.mono H5.out.low.size))
    clear hb
    go_wp2_with fail
    go_ret
    exact ⟨rfl, HB6.out⟩
  · have q0 := HQ0.out
    have Hs1 := Lib.hid (again_same Hx.out)
    simp only [Flt.ok]
    go_wp2_with fail
    refine (as_len H3.out).mono ?_
    rintro e w4 ⟨rfl, rfl⟩
    go_wp2_with fail
    refine (as_parse H3.out s v Flt.ok R Htab.out.1 hs HT.out Hs1.out).mono ?_
    rintro e w5 ⟨rfl, h⟩
    have H5 := Lib.hid (h.box Flt.ok)
    obtain ⟨x0, x1, x2, x3⟩ := h.at_ w3.heap.size Flt.ok (by simp)
    have lx := World.block_lt_of_cell? _ _ x0
    clear h
    simp only [Flt.val, Flt.ok] at x0 x1 x2 x3 lx ⊢
    go_wp2_with fail
    refine (as_len H5.out).mono ?_
    rintro e w6 ⟨rfl, rfl⟩
    by_cases hlt : s.size < 1000
    · have hlt2 : (s.size : Int) < 1000 := by omega
      have hp := par_text s
      have Hs2 := Lib.hid (again_par Hx.out hp hlt)
      have hsz2 : (⟨#[40]⟩ ++ s ++ ⟨#[10, 41]⟩ : ByteArray).size ≤ 1099511627000 := by rw [hp.size]; omega
      clear hp
      go_wp2_with fail
      refine (as_parse H5.out _ v Flt.ok R Htab.out.1 hsz2 HT.out Hs2.out).mono ?_
      rintro e w6 ⟨rfl, h⟩
      have H6 := Lib.hid (h.box Flt.ok)
      obtain ⟨z0, z1, z2, z3⟩ := h.at_ w3.heap.size Flt.ok (by simp)
      have lz := World.block_lt_of_cell? _ _ z0
      clear h
      simp only [Flt.val, Flt.ok] at z0 z1 z2 z3 lz ⊢
      go_wp2_with fail
      refine (as_len H6.out).mono ?_
      rintro e w9 ⟨rfl, rfl⟩
      go_wp2_with fail
      refine (as_rows H6.out hRl).mono ?_
      rintro e w7 ⟨a7, c7, rfl, S7, hd1, hd2, h⟩
      have H7 := Lib.hid h
      have S7' := Lib.hid (S7.pre Htab.out.2)
      clear h S7
      have hge : (rs.length : Int) ≤ (R.length : Int) := by omega
      go_wp2_with fail
      refine (same_true w7 _ _ _ _ _ S7'.out H7.out.sl).mono ?_
      rintro e w8 ⟨rfl, hb⟩
      have H8 := Lib.hid (H7.out.below hb)
      clear hb
      go_wp2_with fail
      refine (heads_any w8 (HT.out.on H8.out.low)).mono ?_
      rintro e w9 ⟨rfl, hb⟩
      have HB9 := Lib.hid (H8.out.low.trans (hb.mono H8.out.low.size))
      clear hb
      go_wp2_with fail
      go_ret
      exact ⟨rfl, HB9.out⟩
    · have hlt2 : ¬ (s.size : Int) < 1000 := by omega
      go_wp2_with fail
      refine (as_rows H5.out hRl).mono ?_
      rintro e w7 ⟨a7, c7, rfl, S7, hd1, hd2, h⟩
      have H7 := Lib.hid h
      have S7' := Lib.hid (S7.pre Htab.out.2)
      clear h S7
      have hge : (rs.length : Int) ≤ (R.length : Int) := by omega
      go_wp2_with fail
      refine (same_true w7 _ _ _ _ _ S7'.out H7.out.sl).mono ?_
      rintro e w8 ⟨rfl, hb⟩
      have H8 := Lib.hid (H7.out.below hb)
      clear hb
      go_wp2_with fail
      refine (heads_any w8 (HT.out.on H8.out.low)).mono ?_
      rintro e w9 ⟨rfl, hb⟩
      have HB9 := Lib.hid (H8.out.low.trans (hb.mono H8.out.low.size))
      clear hb
      go_wp2_with fail
      go_ret
      exact ⟨rfl, HB9.out⟩
end Go.Proofs.YtglnmkdlcbkpeaaGreatDoor
