/-
  What the rows' data and the laid tables give a walk.
-/
import Derived.Test.YtglnmkdlcbkpeaaGreatDoorGR
import Derived.Test.YtglnmkdlcbkpeaaGreatDoorGU
import Derived.Test.YtglnmkdlcbkpeaaGreatDoorRows
import Derived.Test.YtglnmkdlcbkpeaaGreatDoorShelf
import Derived.WalkKit
import Derived.ProofKit
import Derived.Deep.Slices
import Derived.Deep.Fields
import Derived.ChangeSame
import Derived.PinnedBridge
import Derived.Lay
import Derived.Lib.LaidU8T
import Derived.SizedLaws
/- What comes in: rows as data; the tables of unicode/utf8. -/
set_option linter.unusedVariables false
set_option linter.unusedSimpArgs false
namespace Go.Proofs.YtglnmkdlcbkpeaaGreatDoor
open Go.ChangeShapes Go.WideShapes Go.ChangeAt Go.RowKit Go.Deep Go.Shelf Go.Lib

theorem own_knob : ownKnob Tryz.prog.godebug = none := by kernel_rfl
theorem laid_out : laidOutB Tryz.prog = true := by kernel_rfl
theorem node_fields : ∃ f0 f1 f2 f3 : Field, Tryz.prog.underlying 54 = some (.struct #[f0, f1, f2, f3]) ∧ oneCellFields Tryz.prog #[f0, f1, f2, f3] = true ∧ Tryz.prog.underlying f0.type = some (.int .i64) ∧ Tryz.prog.underlying f1.type = some .string ∧ Tryz.prog.underlying f2.type = some (.int .i64) ∧ Tryz.prog.underlying f3.type = some (.int .i64) :=
  ⟨_, _, _, _, Tryz.underlying54, by kernel_rfl, by kernel_rfl, by kernel_rfl, by kernel_rfl, by kernel_rfl⟩
theorem node_cellsOf : Tryz.prog.cellsOf 54 = 4 := by kernel_rfl
theorem node_bytes : Tryz.prog.bytesOf 54 = 40 := by kernel_rfl

section
variable {H : Type} {enc : TypeId × Value → H} {P : Program} {w : World} {base : Nat} {spare : Nat → Bool} {held : Bool}
theorem open_slice_fields {t e : TypeId} {fs : Array Field} {fuel : Nat} {cs : List Value} {x : DataW H × List MemPlace} (ht : P.underlying t = some (.slice e)) (he : P.underlying e = some (.struct fs))
    (hone : oneCellFields P fs = true) (hC : P.cellsOf e = fs.size) (h : DataW.trod enc P w base spare held fuel t cs = some x) :
    (cs = [.slice none 0 0] ∧ x = (.nil, [])) ∨
    ∃ (a : Addr) (len cap m : Nat) (D : Nat → DataW H) (Pl : Nat → List MemPlace), cs = [.slice (some a) len cap] ∧ base ≤ a.block ∧ len ≤ cap ∧ cap ≤ maxLen ∧ m = (if spare a.block then cap else len) ∧
      x = (.slice ((List.range len).map D) ((List.range (m - len)).map fun j => D (len + j)), MemPlace.row a (m * fs.size) ++ (List.range m).flatMap Pl) ∧
      ∀ i, i < m → ∃ (ys : List (DataW H × List MemPlace)) (n : Nat), D i = .agg (ys.map (·.1)) ∧ Pl i = ys.flatMap (·.2) ∧ ys.length = fs.size ∧
        ∀ (j : Nat) (f : Field), fs[j]? = some f → ∃ (v : Value) (y : DataW H × List MemPlace), w.cell? (a.add (i * fs.size + j)) = some v ∧ ys[j]? = some y ∧ DataW.trod enc P w base spare held n f.type [v] = some y := by
  rcases open_slice ht h with h0 | ⟨a, len, cap, m, n, D, Pl, hcs, hb, hl, hm, hmm, hx, hi⟩
  · exact .inl h0
  · refine .inr ⟨a, len, cap, m, D, Pl, hcs, hb, hl, hm, hmm, by rw [hC] at hx; exact hx, fun i him => ?_⟩
    obtain ⟨cs', hc, ht'⟩ := hi i him
    rw [hC] at hc
    obtain ⟨ys, n', hn', hy, hlen, hyl, hf⟩ := DataW.trod_struct he ht'
    obtain ⟨_, hcl, hat⟩ := World.cells?_some hc
    simp only [Prod.mk.injEq] at hy
    refine ⟨ys, n', hy.1, hy.2, hyl, fun j f hj => ?_⟩
    obtain ⟨ho, hk⟩ := hone_of hone j f hj
    have hjl : j < fs.size := (Array.getElem?_eq_some_iff.1 hj).1
    have hcell := hat j hjl
    have hv : cs'[j]? = some (cs'[j]'(by omega)) := List.getElem?_eq_getElem (by omega)
    have h1 := hf j f hj
    rw [ho, hk] at h1
    have hone' : (cs'.drop j).take 1 = [cs'[j]'(by omega)] := by
      rw [List.drop_eq_getElem_cons (by omega)]
      rfl
    rw [hone'] at h1
    have hys : ys[j]? = some (ys[j]'(by omega)) := List.getElem?_eq_getElem (by omega)
    refine ⟨_, _, ?_, hys, h1.trans hys⟩
    rw [← Go.Deep.add_add, hcell, hv]
end
theorem weightsAll_mem {H : Type} {P : Program} {e : TypeId} : ∀ {l : List (DataW H)} {d : DataW H}, d ∈ l → ∀ n ∈ d.weights P e, n ∈ DataW.weightsAll P e l
  | [], _, h, _, _ => by cases h
  | x :: r, d, h, n, hn => by
    rw [DataW.weightsAll, List.mem_append]
    rcases List.mem_cons.1 h with rfl | h
    · exact .inl hn
    · exact .inr (weightsAll_mem h n hn)

instance : Inhabited Nd := ⟨⟨0, ⟨#[]⟩, 0, 0⟩⟩
set_option maxRecDepth 100000 in
theorem open_nodes {H : Type} {enc : TypeId × Value → H} {W : World} {a0 : Option Addr} {len cap : Nat} {d0 : DataW H} {p0 : List MemPlace} {ts : List TypeId} {ds : List (DataW H)}
    (h : DataW.Trod enc Tryz.prog W 0 (fun _ => true) true 22 (.slice a0 len cap) d0 p0) (hsz : (DataW.weightsEach Tryz.prog (22 :: ts) (d0 :: ds)).all (· ≤ reachBytes) = true) :
    ∃ rows : List Nd, rows.length = len ∧ Sl W a0 rows ∧ (∀ d ∈ rows, d.s.size ≤ 140737488355328) ∧ (a0 = none → rows = [] ∧ cap = 0) := by
  obtain ⟨f0, f1, f2, f3, hst, hone, u0, u1, u2, u3⟩ := node_fields
  obtain ⟨fuel, hf⟩ := h
  rcases open_slice_fields under_nodes hst hone node_cellsOf hf with ⟨hcs, hx⟩ | ⟨a, len', cap', m, D, Pl, hcs, _, hl, hm, hmm, hx, hel⟩
  · simp [Value.cells] at hcs
    obtain ⟨rfl, rfl, rfl⟩ := hcs
    exact ⟨[], rfl, ⟨by simp, fun h => by simp at h⟩, by simp, fun _ => ⟨rfl, rfl⟩⟩
  · simp [Value.cells] at hcs
    obtain ⟨rfl, rfl, rfl⟩ := hcs
    simp only [if_true] at hmm
    have hmm' : cap = m := hmm.symm
    subst hmm'
    simp only [Prod.mk.injEq] at hx
    obtain ⟨rfl, rfl⟩ := hx
    have hw := sized_slice hsz (j := 0) rfl rfl under_nodes
    rw [node_bytes] at hw
    simp only [List.length_map, List.length_range, reachBytes] at hw
    have each : ∀ i, i < len → ∃ d : Nd, D i = .agg [.lit (.int .i64 d.k), .lit (.string d.s.data.toList), .lit (.int .i64 d.l), .lit (.int .i64 d.r)] ∧ ∀ j u, d.cells[j]? = some u → W.cell? (a.add (i * 4 + j)) = some u := by
      intro i hi
      obtain ⟨ys, n, hD, hP, hyl, hj⟩ := hel i (by omega)
      obtain ⟨v0, y0, c0, e0, t0⟩ := hj 0 f0 rfl
      obtain ⟨v1, y1, c1, e1, t1⟩ := hj 1 f1 rfl
      obtain ⟨v2, y2, c2, e2, t2⟩ := hj 2 f2 rfl
      obtain ⟨v3, y3, c3, e3, t3⟩ := hj 3 f3 rfl
      obtain ⟨k, q0, q0', _⟩ := DataW.trod_int u0 t0
      obtain ⟨s, q1, q1', _⟩ := DataW.trod_string u1 t1
      obtain ⟨l, q2, q2', _⟩ := DataW.trod_int u2 t2
      obtain ⟨r, q3, q3', _⟩ := DataW.trod_int u3 t3
      simp at q0 q1 q2 q3
      subst q0 q1 q2 q3
      refine ⟨⟨k, s, l, r⟩, ?_, fun j u hu => ?_⟩
      · match ys, hyl, e0, e1, e2, e3 with
        | [z0, z1, z2, z3], _, e0, e1, e2, e3 =>
          simp at e0 e1 e2 e3
          subst e0 e1 e2 e3
          rw [hD, q0', q1', q2', q3']
          rfl
      · match j, hu with
        | 0, hu => cases hu; exact c0
        | 1, hu => cases hu; exact c1
        | 2, hu => cases hu; exact c2
        | 3, hu => cases hu; exact c3
        | j + 4, hu => simp [Nd.cells] at hu
    obtain ⟨R, hR⟩ := choose_lt each
    refine ⟨(List.range len).map R, by simp, ⟨by simp; omega, fun hn => ?_⟩, ?_, fun h => by cases h⟩
    · have hn' : 0 < len := by simpa using hn
      obtain ⟨b, off, spot⟩ := a
      have hs0 := (hR 0 hn').2 0 _ rfl
      have hspot : spot = none := by simpa [Addr.add] using World.cell?_spot hs0
      subst hspot
      refine ⟨b, off, rfl, World.block_lt_of_cell? _ _ hs0, fun j u hu => ?_⟩
      have hjl := (List.getElem?_eq_some_iff.1 hu).1
      rw [cellsOf_length] at hjl
      simp only [List.length_map, List.length_range] at hjl
      have hi : j / 4 < len := by omega
      have hj : j = j / 4 * 4 + j % 4 := by omega
      have hg := cellsOf_get ((List.range len).map R) (j / 4) (by simpa using hi) (j % 4) (by omega)
      rw [← hj] at hg
      rw [hg] at hu
      simp only [List.getElem_map, List.getElem_range] at hu
      have := (hR (j / 4) hi).2 (j % 4) u hu
      rw [← hj, Lib.add_plain] at this
      exact this
    · intro d hd
      simp only [List.mem_map, List.mem_range] at hd
      obtain ⟨i, hi, rfl⟩ := hd
      have hin : (R i).s.data.toList.length ∈ DataW.weightsAll Tryz.prog 54 ((List.range len).map D) := by
        refine weightsAll_mem (d := D i) (List.mem_map.2 ⟨i, List.mem_range.2 hi, rfl⟩) _ ?_
        rw [(hR i hi).1]
        simp [DataW.weights, hst, DataW.weightsEach]
      have h2 : (R i).s.data.toList.length ∈ DataW.weightsEach Tryz.prog (22 :: ts) ((.slice ((List.range len).map D) ((List.range (cap - len)).map fun j => D (len + j))) :: ds) := by
        rw [DataW.weightsEach, List.mem_append]
        left
        simp only [DataW.weights, under_nodes, List.mem_cons, List.mem_append]
        exact .inr (.inl hin)
      have := List.all_eq_true.1 hsz _ h2
      have h3 : (R i).s.data.toList.length ≤ reachBytes := by simpa using this
      have h4 : reachBytes = 140737488351232 := rfl
      show (R i).s.data.toList.length ≤ _
      omega

set_option maxRecDepth 100000
theorem u8_extra : U8Extra Tryz.prog Tryz.lays260_ren := ⟨by kernel_rfl, by kernel_rfl, by kernel_rfl, by kernel_rfl, by kernel_rfl, by kernel_rfl, by kernel_rfl⟩
theorem accept_eq : (Rows.laid_unicode_utf8_acceptRanges : DataW Unit) = acceptData := by kernel_rfl
theorem err_of_laid {W : World} {laid : List (String × DataW Unit)} (h : laidMet Tryz.prog laid W) (hm : ("strconv.ErrRange", Rows.laid_strconv_ErrRange) ∈ laid) : ∃ te pe, W.cell? ⟨4, 0, none⟩ = some (.iface te pe) := by
  obtain ⟨g, t, cs, fuel, p, h1, h2, h3, h4⟩ := Lib.laidMet.reads h hm
  have hg : Tryz.prog.globalNamed "strconv.ErrRange" = some 4 := by kernel_rfl
  have ht : (Tryz.prog.globals[(4 : Nat)]?).map (·.type) = some 98 := by kernel_rfl
  obtain rfl : g = 4 := Option.some.inj (h1.symm.trans hg)
  obtain rfl : t = 98 := Option.some.inj (h2.symm.trans ht)
  have hu : ∃ ms, Tryz.prog.underlying 98 = some (.interface ms) := ⟨_, Tryz.underlying98⟩
  obtain ⟨ms, hu⟩ := hu
  have h0 := World.var?_cell hg h3 0
  cases fuel with
  | zero => simp [DataW.trod] at h4
  | succ fuel =>
    obtain ⟨l⟩ := cs
    cases l with
    | nil => simp [DataW.trod, hu] at h4
    | cons v l =>
      cases l with
      | cons v2 l => simp [DataW.trod, hu] at h4
      | nil =>
        cases v with
        | iface te pe => exact ⟨te, pe, by simpa using h0⟩
        | nilIface => simp [DataW.trod, hu, Rows.laid_strconv_ErrRange] at h4
        | _ => simp [DataW.trod, hu] at h4
theorem tabs_of_laid {W : World} {laid : List (String × DataW Unit)} (h : laidMet Tryz.prog laid W) (h1 : ("unicode/utf8.first", Rows.laid_unicode_utf8_first) ∈ laid) (h2 : ("unicode/utf8.acceptRanges", Rows.laid_unicode_utf8_acceptRanges) ∈ laid) (h3 : ("strconv.ErrRange", Rows.laid_strconv_ErrRange) ∈ laid) : Gl W :=
  ⟨utf8Tabs_of_readsT (U8Types.of260 Tryz.lays260) u8_extra (Pinned.utf8First_eq ▸ Lib.laidMet.reads h h1) (accept_eq ▸ Lib.laidMet.reads h h2), err_of_laid h h3⟩
end Go.Proofs.YtglnmkdlcbkpeaaGreatDoor
