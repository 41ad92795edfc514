/-
  Package syntax: plain laws of what Scan and Parse answer: always something; a table; the same text once more is the same; in parentheses, too (below 1000 bytes).
-/
import Derived.Test.YtglnmkdlcbkpeaaGreatDoorGA
import Derived.Test.YtglnmkdlcbkpeaaGreatDoorGP
import Derived.Lib.MapLaws
import Derived.Test.YtglnmkdlcbkpeaaGreatDoorGB
/- token: Scan always answers. -/
set_option linter.unusedVariables false
set_option linter.unusedSimpArgs false
namespace Go.Proofs.YtglnmkdlcbkpeaaGreatDoor
open Go.RowKit

theorem wordP_some (s : ByteArray) (h : 0 < s.size) : ∃ r, wordP s = some r := by
  have hh : s.data.toList.head? = some s[0] := by
    rw [show s.data.toList = s[0] :: s.data.toList.drop 1 from by simpa using drop_rest s 0 h]; rfl
  unfold wordP
  rw [hh]
  simp only
  repeat' split
  all_goals exact ⟨_, rfl⟩
theorem scanP_some (s : ByteArray) : ∀ (f : Nat) (p : Sp) (acc : List Tok), SpOk s p → s.size < p.o + f → ∃ x, scanP s f p acc = some x := by
  intro f
  induction f with
  | zero => intro p acc hp h; have := hp.2.2.2.2; omega
  | succ f ih =>
    intro p acc hp h
    obtain ⟨k1, k2⟩ := spaceP_ok s (s.size + 1) p hp
    change SpOk s (spaceQ s p) at k1
    change p.o ≤ (spaceQ s p).o at k2
    rw [scanP]
    try simp only
    generalize spaceQ s p = q at *
    have hq := k1.2.2.2.2
    split
    · exact ⟨_, rfl⟩
    · rename_i hne
      have hrs := rest_size s q.o hq
      obtain ⟨r, hr⟩ := wordP_some (s.extract q.o s.size) (by omega)
      rw [hr]
      simp only
      obtain ⟨w1, w2, w3⟩ := wordP_le _ r hr
      split
      · exact ⟨_, rfl⟩
      · rename_i h0
        have w5 := w2 (by simpa using h0)
        have hn : q.o + r.2.1 ≤ s.size := by omega
        have hk := skipQ_o s q r.2.1 hn
        exact ih _ _ (skipP_ok s (q.o + r.2.1) hn r.2.1 q k1).1 (by omega)
theorem scanQ_some (s : ByteArray) : ∃ ts fl, scanQ s = some (ts, fl) := by
  obtain ⟨⟨ts, fl⟩, h⟩ := scanP_some s (s.size + 1) ⟨1, 1, 0⟩ [] ⟨by decide, by decide, by decide, by decide, Nat.zero_le _⟩ (by show s.size < 0 + (s.size + 1); omega)
  exact ⟨ts, fl, h⟩
theorem aheadQ_some (s : ByteArray) : ∃ ts fl, aheadQ s = some (ts, fl) := by
  obtain ⟨ts, fl, h⟩ := scanQ_some s
  unfold aheadQ
  rw [h]
  simp only
  split
  · exact ⟨_, _, rfl⟩
  · obtain ⟨ts2, fl2, h2⟩ := scanQ_some (s.extract 0 fl.o.toNat)
    rw [h2]
    exact ⟨_, _, rfl⟩
theorem parseQ_some (rows : List Nd) (s : ByteArray) : ∃ x, parseQ rows s = some x := by
  obtain ⟨ts, fl, h⟩ := aheadQ_some s
  exact ⟨parseT rows (ts, fl), by simp [parseQ, h]⟩
theorem scanP_more (s : ByteArray) : ∀ (f k : Nat) (p : Sp) (acc : List Tok) (x : List Tok × Flt), scanP s f p acc = some x → scanP s (f + k) p acc = some x := by
  intro f
  induction f with
  | zero => intro k p acc x h; simp [scanP] at h
  | succ f ih =>
    intro k p acc x h
    rw [show f + 1 + k = (f + k) + 1 by omega]
    rw [scanP] at h ⊢
    try simp only at h ⊢
    split at h
    · rename_i h1
      rw [if_pos h1]; exact h
    · rename_i h1
      rw [if_neg h1]
      split at h
      · cases h
      · rename_i r hr
        split at h
        · rename_i h2
          rw [if_pos h2]; exact h
        · rename_i h2
          rw [if_neg h2]
          exact ih k _ _ x h
end Go.Proofs.YtglnmkdlcbkpeaaGreatDoor
/- syntax: a text that was read is read again, at another place among other tokens: nothing new. -/
set_option linter.unusedVariables false
set_option linter.unusedSimpArgs false
namespace Go.Proofs.YtglnmkdlcbkpeaaGreatDoor
open Go.RowKit

theorem bind_ok {r : Rs} {k : Int → St → Rs} {v : Int} {s1 : St} (h : r.bind k = .ok v s1) : ∃ a sa, r = .ok a sa ∧ k a sa = .ok v s1 := by
  cases r with
  | out => cases h
  | bad f rows => cases h
  | ok a sa => exact ⟨a, sa, rfl, h⟩
def nx (st : St) : St := { st with i := st.i + 1 }
theorem take_f (ts : List Tok) (st : St) : takeP false ts st = .ok 0 (nx st) := by simp [takeP, nx]
theorem sign_yes {ts : List Tok} {st : St} {s : ByteArray} {no yes : St → Rs} (h : isSg (tokAt ts st.i) s = true) : signR false ts st s no yes = yes (nx st) := by
  rw [signR, if_pos h, take_f]; rfl
theorem sign_no {ts : List Tok} {st : St} {s : ByteArray} {no yes : St → Rs} (h : isSg (tokAt ts st.i) s = false) : signR false ts st s no yes = no st := by
  rw [signR, if_neg (by rw [h]; decide)]
theorem sign_ok {ts : List Tok} {st : St} {s : ByteArray} {no yes : St → Rs} {v : Int} {s1 : St} (h : signR false ts st s no yes = .ok v s1) :
    (isSg (tokAt ts st.i) s = false ∧ no st = .ok v s1) ∨ (isSg (tokAt ts st.i) s = true ∧ yes (nx st) = .ok v s1) := by
  cases hs : isSg (tokAt ts st.i) s with
  | true => rw [sign_yes hs] at h; exact .inr ⟨rfl, h⟩
  | false => rw [sign_no hs] at h; exact .inl ⟨rfl, h⟩
def Val (st : St) (v : Int) : Prop := 0 ≤ v ∧ v < st.rows.length
theorem Val.mono {s t : St} {v : Int} (h : Val s v) (hp : s.rows <+: t.rows) : Val t v := ⟨h.1, by have := hp.length_le; have := h.2; omega⟩
/-- A node that was made. -/
def Made (st : St) (k : Int) (s : ByteArray) (a b x : Int) (s1 : St) : Prop := nodeP st k s a b = (x, s1)
theorem node_ok {st : St} {k a b : Int} {f : Int → St → Rs} {v : Int} {s1 : St} (h : nodeK st k a b f = .ok v s1) : ∃ x sx, Made st k noText a b x sx ∧ f x sx = .ok v s1 := ⟨_, _, rfl, h⟩
theorem Made.rows {st : St} {k : Int} {s : ByteArray} {a b x : Int} {s1 : St} (h : Made st k s a b x s1) : st.rows <+: s1.rows := by
  have := (nodeP_ext st k s a b).1; rw [h] at this; exact this
theorem Made.i {st : St} {k : Int} {s : ByteArray} {a b x : Int} {s1 : St} (h : Made st k s a b x s1) : s1.i = st.i := by
  have := (nodeP_ext st k s a b).2; rw [h] at this; exact this
theorem Made.nest {st : St} {k : Int} {s : ByteArray} {a b x : Int} {s1 : St} (h : Made st k s a b x s1) : s1.nest = st.nest := by
  have := nodeP_nest st k s a b; rw [h] at this; exact this
theorem Made.full {st : St} {k : Int} {s : ByteArray} {a b x : Int} {s1 : St} (h : Made st k s a b x s1) (h1 : s1.full = false) : st.full = false := by
  unfold Made nodeP at h
  split at h
  · cases h; exact h1
  · rename_i hf; simpa using hf
theorem fits_mono {n m : Nat} {d : Nd} (h : fitsN n d = 0) (hm : n ≤ m) : fitsN m d = 0 := by
  unfold fitsN at h ⊢
  split
  · rename_i h1; rw [if_pos h1] at h; exact h
  · rename_i h1
    rw [if_neg h1] at h
    split
    · rename_i h2; rw [if_pos h2] at h; exact h
    · rename_i h2
      rw [if_neg h2] at h
      split
      · rename_i h3
        rw [if_pos h3] at h
        split at h
        · rename_i h4
          have hA : hasB m d.l = true := by have := h4.2.1; simp only [hasB, decide_eq_true_eq, Bool.and_eq_true] at this ⊢; omega
          have hB : hasB m d.r = true := by have := h4.2.2; simp only [hasB, decide_eq_true_eq, Bool.and_eq_true] at this ⊢; omega
          rw [if_pos ⟨h4.1, hA, hB⟩]
        · cases h
      · rename_i h3; rw [if_neg h3] at h; exact h
theorem find_prefix {rows R : List Nd} {d : Nd} {i : Nat} (h : findN rows d = some i) (hp : rows <+: R) : findN R d = some i := by
  obtain ⟨tl, rfl⟩ := hp
  unfold findN at h ⊢
  rw [List.findIdx?_append, h]
  rfl
theorem find_new {rows R : List Nd} {d : Nd} (h : findN rows d = none) (hp : rows ++ [d] <+: R) : findN R d = some rows.length := by
  obtain ⟨tl, rfl⟩ := hp
  unfold findN at h ⊢
  rw [List.append_assoc, List.findIdx?_append, h]
  simp [List.findIdx?_cons]
theorem Made.again {st : St} {k : Int} {s : ByteArray} {a b x : Int} {s1 : St} {R : List Nd} (h : Made st k s a b x s1) (hfit : fitsN st.rows.length ⟨k, s, a, b⟩ = 0) (h1 : s1.full = false) (hR : s1.rows <+: R) :
    Val s1 x ∧ ∀ t : St, t.rows = R → t.full = false → nodeP t k s a b = (x, t) := by
  have hf := h.full h1
  have hlen := (h.rows.trans hR).length_le
  unfold Made nodeP at h
  rw [if_neg (by rw [hf]; decide)] at h
  have key : ∀ i : Nat, x = i → i < s1.rows.length → findN R ⟨k, s, a, b⟩ = some i → Val s1 x ∧ ∀ t : St, t.rows = R → t.full = false → nodeP t k s a b = (x, t) := by
    rintro i rfl hi hfi
    refine ⟨⟨by omega, by omega⟩, fun t ht hft => ?_⟩
    obtain ⟨rw', ii, nn, ne, fu⟩ := t
    simp only at ht hft
    subst ht; subst hft
    simp only [nodeP, putR_found (fits_mono hfit hlen) hfi]
    rfl
  cases hfi : findN st.rows ⟨k, s, a, b⟩ with
  | some i =>
    rw [putR_found hfit hfi] at h
    have hx := congrArg Prod.fst h
    have hs := congrArg (fun y => y.2.rows) h
    simp only at hx hs
    have hi : i < st.rows.length := by
      unfold findN at hfi
      exact (List.findIdx?_eq_some_iff_getElem.1 hfi).1
    refine key i hx.symm (by rw [← hs]; exact hi) (find_prefix hfi ((hs ▸ List.prefix_refl _ : st.rows <+: s1.rows).trans hR))
  | none =>
    by_cases hn : 1024 ≤ st.rows.length
    · rw [putR_full hfit hfi hn] at h
      have := congrArg (fun y => y.2.full) h
      simp only at this
      rw [h1] at this
      simp at this
    · rw [putR_new hfit hfi hn] at h
      have hx := congrArg Prod.fst h
      have hs := congrArg (fun y => y.2.rows) h
      simp only at hx hs
      exact key st.rows.length hx.symm (by rw [← hs]; simp) (find_new hfi (by rw [hs]; exact hR))
theorem fit_two {st : St} {k a b : Int} (hk : k = 3 ∨ k = 4 ∨ k = 5) (ha : Val st a) (hb : Val st b) : fitsN st.rows.length ⟨k, noText, a, b⟩ = 0 := by
  have h1 : ¬ k = 1 := by omega
  have h2 : ¬ k = 2 := by omega
  have hA : hasB st.rows.length a = true := by have := ha.1; have := ha.2; simp only [hasB, decide_eq_true_eq, Bool.and_eq_true]; omega
  have hB : hasB st.rows.length b = true := by have := hb.1; have := hb.2; simp only [hasB, decide_eq_true_eq, Bool.and_eq_true]; omega
  have hn : noText.toList = [] := by rw [toList_nil]; rfl
  simp only [fitsN, if_neg h1, if_neg h2, if_pos hk, hn, hA, hB, and_self, if_true]
theorem fit_bot (n : Nat) : fitsN n ⟨2, noText, 0, 0⟩ = 0 := by
  have hn : noText.toList = [] := by rw [toList_nil]; rfl
  simp [fitsN, hn]
theorem fit_word {n : Nat} {s : ByteArray} (h : wordB s = true) : fitsN n ⟨1, s, 0, 0⟩ = 0 := by
  simp [fitsN, h]

theorem parse_full (ts : List Tok) : ∀ (f : Nat) (md : Md) (st : St) (v : Int) (s1 : St), parseP false ts f md st = .ok v s1 → s1.full = false → st.full = false := by
  intro f
  induction f with
  | zero => intro md st v s1 h; cases h
  | succ f ih =>
    intro md st v s1 h hf
    cases md with
    | formula =>
      rw [parseP] at h
      obtain ⟨a, sa, ha, h⟩ := bind_ok h
      refine ih _ _ _ _ ha ?_
      rcases sign_ok h with ⟨_, h⟩ | ⟨_, h⟩
      · cases h; exact hf
      · obtain ⟨b, sb, hb, h⟩ := bind_ok h
        obtain ⟨x, sx, hx, h⟩ := node_ok h
        obtain ⟨y, sy, hy, h⟩ := node_ok h
        obtain ⟨z, sz, hz, h⟩ := node_ok h
        cases h
        exact ih _ (nx _) _ _ hb (hx.full (hy.full (hz.full hf)))
    | implied =>
      rw [parseP] at h
      obtain ⟨a, sa, ha, h⟩ := bind_ok h
      refine ih _ _ _ _ ha ?_
      rcases sign_ok h with ⟨_, h⟩ | ⟨_, h⟩
      · cases h; exact hf
      · obtain ⟨b, sb, hb, h⟩ := bind_ok h
        obtain ⟨x, sx, hx, h⟩ := node_ok h
        cases h
        exact ih _ (nx _) _ _ hb (hx.full hf)
    | row lv =>
      rw [parseP] at h
      obtain ⟨a, sa, ha, h⟩ := bind_ok h
      exact ih _ _ _ _ ha (ih _ _ _ _ h hf)
    | rowL lv a =>
      rw [parseP] at h
      rcases sign_ok h with ⟨_, h⟩ | ⟨_, h⟩
      · cases h; exact hf
      · obtain ⟨b, sb, hb, h⟩ := bind_ok h
        obtain ⟨x, sx, hx, h⟩ := node_ok h
        exact ih _ (nx _) _ _ hb (hx.full (ih _ _ _ _ h hf))
    | single =>
      rw [parseP, singleP] at h
      simp only [take_f] at h
      split at h
      · obtain ⟨a, sa, ha, h⟩ := bind_ok (show (parseP false ts f .single (nx st)).bind _ = _ from h)
        obtain ⟨x, sx, hx, h⟩ := node_ok h
        obtain ⟨y, sy, hy, h⟩ := node_ok h
        cases h
        exact ih _ (nx _) _ _ ha (hx.full (hy.full hf))
      · split at h
        · split at h
          · cases h
          · obtain ⟨a, sa, ha, h⟩ := bind_ok (show (parseP false ts f .formula (nx { st with nest := st.nest + 1 })).bind _ = _ from h)
            rcases sign_ok h with ⟨_, h⟩ | ⟨_, h⟩
            · cases h
            · cases h
              exact ih _ (nx { st with nest := st.nest + 1 }) _ sa ha hf
        · split at h
          · obtain ⟨x, sx, hx, h⟩ := node_ok (show nodeK (nx st) 2 0 0 (fun b st => nodeK st 5 b b .ok) = Rs.ok v s1 from h)
            obtain ⟨y, sy, hy, h⟩ := node_ok h
            cases h
            exact Made.full (st := nx st) hx (hy.full hf)
          · split at h
            · obtain ⟨x, sx, hx, h⟩ := node_ok (show nodeK (nx st) 2 0 0 .ok = Rs.ok v s1 from h)
              cases h
              exact Made.full (st := nx st) hx hf
            · split at h
              · have h2 : Rs.ok _ _ = Rs.ok v s1 := h
                injection h2 with _ h2
                subst h2
                exact Made.full (st := nx st) rfl hf
              · cases h

/-! The other run: its rows hold all that the run made; its tokens stand d further on, its nest is k deeper. -/
def Sm (R : List Nd) (d k : Nat) (s t : St) : Prop := t.rows = R ∧ t.full = false ∧ t.i = s.i + d ∧ t.nest = s.nest + k
def alike (a b : Tok) : Prop := a.k = b.k ∧ a.s = b.s
theorem alike.sg {a b : Tok} (h : alike a b) (s : ByteArray) : isSg a s = isSg b s := by unfold isSg; rw [h.1, h.2]
def Agr (ts ts' : List Tok) (d n : Nat) : Prop := (∀ j, j < n → alike (tokAt ts' (j + d)) (tokAt ts j)) ∧ ∀ s ∈ [sIff, sImp, sOr, sAnd], isSg (tokAt ts' (n + d)) s = isSg (tokAt ts n) s
theorem Agr.le {ts ts' : List Tok} {d n m : Nat} (h : Agr ts ts' d n) (hm : m ≤ n) : Agr ts ts' d m := by
  refine ⟨fun j hj => h.1 j (by omega), fun s hs => ?_⟩
  rcases Nat.lt_or_ge m n with hl | hl
  · exact (h.1 m hl).sg s
  · obtain rfl : m = n := by omega
    exact h.2 s hs
theorem lvS_mem (lv : Bool) : lvS lv ∈ [sIff, sImp, sOr, sAnd] := by cases lv <;> simp [lvS]
theorem Sm.nx {R : List Nd} {d k : Nat} {s t : St} (h : Sm R d k s t) : Sm R d k (nx s) (nx t) := ⟨h.1, h.2.1, by show t.i + 1 = s.i + 1 + d; have := h.2.2.1; omega, h.2.2.2⟩
theorem Sm.node {R : List Nd} {d k : Nat} {s t s1 : St} {kd : Int} {n : ByteArray} {a b x : Int} (h : Sm R d k s t) (hm : Made s kd n a b x s1) : Sm R d k s1 t := ⟨h.1, h.2.1, by rw [hm.i]; exact h.2.2.1, by rw [hm.nest]; exact h.2.2.2⟩
def MdOk (st : St) : Md → Prop
  | .rowL _ a => Val st a
  | _ => True
theorem parse_rows {ts : List Tok} {f : Nat} {md : Md} {st : St} {v : Int} {s1 : St} (h : parseP false ts f md st = .ok v s1) : st.rows <+: s1.rows ∧ st.i ≤ s1.i ∧ s1.nest = st.nest := by
  have h1 := parse_ext false ts f md st
  rw [h] at h1
  exact ⟨h1.1, h1.2, nst_ok (parse_nest false ts f md st) h⟩

theorem sim (ts ts' : List Tok) (R : List Nd) (d k : Nat) : ∀ (f : Nat) (md : Md) (st : St) (v : Int) (s1 : St), parseP false ts f md st = .ok v s1 → s1.full = false → s1.rows <+: R → Agr ts ts' d s1.i → (k = 0 ∨ s1.i + k ≤ 1024) → st.nest ≤ st.i → MdOk st md →
    Val s1 v ∧ ∀ t, Sm R d k st t → ∃ t1, (∀ g, parseP false ts' (f + g) md t = .ok v t1) ∧ Sm R d k s1 t1 := by
  intro f
  induction f with
  | zero => intro md st v s1 h; cases h
  | succ f ih =>
    intro md st v s1 h hf hR hA hk hn hmd
    cases md with
    | formula =>
      rw [parseP] at h
      obtain ⟨a, sa, ha, h⟩ := bind_ok h
      obtain ⟨ra, ia, na⟩ := parse_rows ha
      rcases sign_ok h with ⟨hs, h⟩ | ⟨hs, h⟩
      · cases h
        obtain ⟨hv, hsim⟩ := ih _ _ _ _ ha hf hR hA hk hn trivial
        refine ⟨hv, fun t ht => ?_⟩
        obtain ⟨t1, p1, p2⟩ := hsim t ht
        refine ⟨t1, fun g => ?_, p2⟩
        rw [Nat.add_right_comm, parseP, p1]
        exact sign_no (by rw [p2.2.2.1, hA.2 _ (by simp)]; exact hs)
      · obtain ⟨b, sb, hb, h⟩ := bind_ok h
        obtain ⟨x, sx, hx, h⟩ := node_ok h
        obtain ⟨y, sy, hy, h⟩ := node_ok h
        obtain ⟨z, sz, hz, h⟩ := node_ok h
        cases h
        obtain ⟨rb, ib, nb⟩ := parse_rows hb
        have hfy := hz.full hf
        have hfx := hy.full hfy
        have hfb := hx.full hfx
        have hfa : sa.full = false := parse_full _ _ _ (nx sa) _ _ hb hfb
        have hRy := hz.rows.trans hR
        have hRx := hy.rows.trans hRy
        have hRb := hx.rows.trans hRx
        have hRa : sa.rows <+: R := List.IsPrefix.trans (show sa.rows <+: sb.rows from rb) hRb
        have hi : s1.i = sb.i := by rw [hz.i, hy.i, hx.i]
        have hib : sa.i + 1 ≤ sb.i := ib
        have hnb : sb.nest = sa.nest := nb
        obtain ⟨va, sima⟩ := ih _ _ _ _ ha hfa hRa (hA.le (by omega)) (by omega) hn trivial
        obtain ⟨vb, simb⟩ := ih _ (nx sa) _ _ hb hfb hRb (hA.le (by omega)) (by omega) (by show sa.nest ≤ sa.i + 1; omega) trivial
        have va' : Val sb a := va.mono (show sa.rows <+: sb.rows from rb)
        obtain ⟨vx, nx1⟩ := hx.again (fit_two (.inr (.inr rfl)) va' vb) hfx hRx
        have va2 := va'.mono hx.rows
        have vb2 := vb.mono hx.rows
        obtain ⟨vy, ny1⟩ := hy.again (fit_two (.inr (.inr rfl)) vb2 va2) hfy hRy
        obtain ⟨vz, nz1⟩ := hz.again (fit_two (.inl rfl) (vx.mono hy.rows) vy) hf hR
        refine ⟨vz, fun t ht => ?_⟩
        obtain ⟨t1, p1, p2⟩ := sima t ht
        obtain ⟨t2, q1, q2⟩ := simb (nx t1) p2.nx
        refine ⟨t2, fun g => ?_, ((q2.node hx).node hy).node hz⟩
        rw [Nat.add_right_comm, parseP, p1]
        refine (sign_yes (by rw [p2.2.2.1, (hA.1 sa.i (by omega)).sg]; exact hs)).trans ?_
        simp only [q1, Rs.bind, nodeK, nx1 t2 q2.1 q2.2.1, ny1 t2 q2.1 q2.2.1, nz1 t2 q2.1 q2.2.1]
    | implied =>
      rw [parseP] at h
      obtain ⟨a, sa, ha, h⟩ := bind_ok h
      obtain ⟨ra, ia, na⟩ := parse_rows ha
      rcases sign_ok h with ⟨hs, h⟩ | ⟨hs, h⟩
      · cases h
        obtain ⟨hv, hsim⟩ := ih _ _ _ _ ha hf hR hA hk hn trivial
        refine ⟨hv, fun t ht => ?_⟩
        obtain ⟨t1, p1, p2⟩ := hsim t ht
        refine ⟨t1, fun g => ?_, p2⟩
        rw [Nat.add_right_comm, parseP, p1]
        exact sign_no (by rw [p2.2.2.1, hA.2 _ (by simp)]; exact hs)
      · obtain ⟨b, sb, hb, h⟩ := bind_ok h
        obtain ⟨x, sx, hx, h⟩ := node_ok h
        cases h
        obtain ⟨rb, ib, nb⟩ := parse_rows hb
        have hfb := hx.full hf
        have hfa : sa.full = false := parse_full _ _ _ (nx sa) _ _ hb hfb
        have hRb := hx.rows.trans hR
        have hRa : sa.rows <+: R := List.IsPrefix.trans (show sa.rows <+: sb.rows from rb) hRb
        have hi : s1.i = sb.i := hx.i
        have hib : sa.i + 1 ≤ sb.i := ib
        obtain ⟨va, sima⟩ := ih _ _ _ _ ha hfa hRa (hA.le (by omega)) (by omega) hn trivial
        obtain ⟨vb, simb⟩ := ih _ (nx sa) _ _ hb hfb hRb (hA.le (by omega)) (by omega) (by show sa.nest ≤ sa.i + 1; omega) trivial
        have va' : Val sb a := va.mono (show sa.rows <+: sb.rows from rb)
        obtain ⟨vx, nx1⟩ := hx.again (fit_two (.inr (.inr rfl)) va' vb) hf hR
        refine ⟨vx, fun t ht => ?_⟩
        obtain ⟨t1, p1, p2⟩ := sima t ht
        obtain ⟨t2, q1, q2⟩ := simb (nx t1) p2.nx
        refine ⟨t2, fun g => ?_, q2.node hx⟩
        rw [Nat.add_right_comm, parseP, p1]
        refine (sign_yes (by rw [p2.2.2.1, (hA.1 sa.i (by omega)).sg]; exact hs)).trans ?_
        simp only [q1, Rs.bind, nodeK, nx1 t2 q2.1 q2.2.1]
    | row lv =>
      rw [parseP] at h
      obtain ⟨a, sa, ha, h⟩ := bind_ok h
      obtain ⟨ra, ia, na⟩ := parse_rows ha
      obtain ⟨rb, ib, nb⟩ := parse_rows h
      have hfa := parse_full _ _ _ _ _ _ h hf
      obtain ⟨va, sima⟩ := ih _ _ _ _ ha hfa (rb.trans hR) (hA.le ib) (by omega) hn (by cases lv <;> trivial)
      obtain ⟨vb, simb⟩ := ih _ _ _ _ h hf hR hA hk (by omega) va
      refine ⟨vb, fun t ht => ?_⟩
      obtain ⟨t1, p1, p2⟩ := sima t ht
      obtain ⟨t2, q1, q2⟩ := simb t1 p2
      exact ⟨t2, fun g => by rw [Nat.add_right_comm, parseP, p1]; exact q1 g, q2⟩
    | rowL lv a =>
      rw [parseP] at h
      rcases sign_ok h with ⟨hs, h⟩ | ⟨hs, h⟩
      · cases h
        refine ⟨hmd, fun t ht => ⟨t, fun g => ?_, ht⟩⟩
        rw [Nat.add_right_comm, parseP]
        exact sign_no (by rw [ht.2.2.1, hA.2 _ (lvS_mem lv)]; exact hs)
      · obtain ⟨b, sb, hb, h⟩ := bind_ok h
        obtain ⟨x, sx, hx, h⟩ := node_ok h
        obtain ⟨rb, ib, nb⟩ := parse_rows hb
        obtain ⟨rc, ic, nc⟩ := parse_rows h
        have hfx := parse_full _ _ _ _ _ _ h hf
        have hfb := hx.full hfx
        have hRx := rc.trans hR
        have hRb := hx.rows.trans hRx
        have hxi := hx.i
        have hxn := hx.nest
        have hib : st.i + 1 ≤ sb.i := ib
        have hnb : sb.nest = st.nest := nb
        obtain ⟨vb, simb⟩ := ih _ (nx st) _ _ hb hfb hRb (hA.le (by omega)) (by omega) (by show st.nest ≤ st.i + 1; omega) (by cases lv <;> trivial)
        have va' : Val sb a := Val.mono hmd (show st.rows <+: sb.rows from rb)
        obtain ⟨vx, nx1⟩ := hx.again (fit_two (by cases lv <;> simp [lvK]) va' vb) hfx hRx
        obtain ⟨vc, simc⟩ := ih _ _ _ _ h hf hR hA hk (by omega) vx
        refine ⟨vc, fun t ht => ?_⟩
        obtain ⟨t2, q1, q2⟩ := simb (nx t) ht.nx
        obtain ⟨t3, r1, r2⟩ := simc t2 (q2.node hx)
        refine ⟨t3, fun g => ?_, r2⟩
        rw [Nat.add_right_comm, parseP]
        refine (sign_yes (by rw [ht.2.2.1, (hA.1 st.i (by omega)).sg]; exact hs)).trans ?_
        simp only [q1, Rs.bind, nodeK, nx1 t2 q2.1 q2.2.1]
        exact r1 g
    | single =>
      rw [parseP, singleP] at h
      simp only [take_f] at h
      have hnew : ∀ t g, parseP false ts' (f + 1 + g) .single t = singleP false ts' (parseP false ts' (f + g)) t := fun t g => by rw [Nat.add_right_comm, parseP]
      have agree : ∀ t, Sm R d k st t → st.i < s1.i → alike (tokAt ts' t.i) (tokAt ts st.i) := fun t ht hl => by rw [ht.2.2.1]; exact hA.1 st.i hl
      split at h
      · rename_i h1
        obtain ⟨a, sa, ha, h⟩ := bind_ok (show (parseP false ts f .single (nx st)).bind _ = _ from h)
        obtain ⟨x, sx, hx, h⟩ := node_ok h
        obtain ⟨y, sy, hy, h⟩ := node_ok h
        cases h
        obtain ⟨ra, ia, na⟩ := parse_rows ha
        have hia : st.i + 1 ≤ sa.i := ia
        have hi : s1.i = sa.i := by rw [hy.i, hx.i]
        have hfx := hy.full hf
        have hRx := hy.rows.trans hR
        obtain ⟨va, sima⟩ := ih _ (nx st) _ _ ha (hx.full hfx) (hx.rows.trans hRx) (hA.le (by omega)) (by omega) (by show st.nest ≤ st.i + 1; omega) trivial
        obtain ⟨vx, nx1⟩ := hx.again (fit_bot _) hfx hRx
        obtain ⟨vy, ny1⟩ := hy.again (fit_two (.inr (.inr rfl)) (va.mono hx.rows) vx) hf hR
        refine ⟨vy, fun t ht => ?_⟩
        have hal := agree t ht (by omega)
        obtain ⟨t1, p1, p2⟩ := sima (nx t) ht.nx
        refine ⟨t1, fun g => ?_, (p2.node hx).node hy⟩
        rw [hnew, singleP]
        simp only [take_f, hal.sg, h1, if_true]
        show (parseP false ts' (f + g) .single (nx t)).bind _ = _
        simp only [p1, Rs.bind, nodeK, nx1 t1 p2.1 p2.2.1, ny1 t1 p2.1 p2.2.1]
      · rename_i h1
        have h1' : isSg (tokAt ts st.i) sNot = false := by simpa using h1
        split at h
        · rename_i h2
          split at h
          · cases h
          · rename_i h3
            obtain ⟨a, sa, ha, h⟩ := bind_ok (show (parseP false ts f .formula (nx { st with nest := st.nest + 1 })).bind _ = _ from h)
            rcases sign_ok h with ⟨_, h⟩ | ⟨hs, h⟩
            · cases h
            · cases h
              obtain ⟨ra, ia, na⟩ := parse_rows ha
              have hia : st.i + 1 ≤ sa.i := ia
              have hna : sa.nest = st.nest + 1 := na
              have hA' : Agr ts ts' d (sa.i + 1) := hA
              have hk' : k = 0 ∨ sa.i + 1 + k ≤ 1024 := hk
              obtain ⟨va, sima⟩ := ih _ (nx { st with nest := st.nest + 1 }) _ _ ha hf hR (hA'.le (by omega)) (by omega) (by show st.nest + 1 ≤ st.i + 1; omega) trivial
              refine ⟨va, fun t ht => ?_⟩
              have hal : alike (tokAt ts' t.i) (tokAt ts st.i) := by rw [ht.2.2.1]; exact hA'.1 st.i (by omega)
              have hno : ¬ t.nest = 1024 := by rw [ht.2.2.2]; omega
              obtain ⟨t1, p1, p2⟩ := sima (nx { t with nest := t.nest + 1 }) ⟨ht.1, ht.2.1, by show t.i + 1 = st.i + 1 + d; have := ht.2.2.1; omega, by show t.nest + 1 = st.nest + 1 + k; have := ht.2.2.2; omega⟩
              refine ⟨{ nx t1 with nest := (nx t1).nest - 1 }, fun g => ?_, p2.1, p2.2.1, by show t1.i + 1 = sa.i + 1 + d; have := p2.2.2.1; omega, by show t1.nest - 1 = sa.nest - 1 + k; have := p2.2.2.2; omega⟩
              rw [hnew, singleP]
              simp only [take_f, hal.sg, h1', h2, if_true, if_neg hno, Bool.false_eq_true, if_false]
              show (parseP false ts' (f + g) .formula (nx { t with nest := t.nest + 1 })).bind _ = _
              rw [p1]
              show signR false ts' t1 sShut (fun st => failP ts' st 41) (fun st => .ok v { st with nest := st.nest - 1 }) = _
              exact sign_yes (by rw [p2.2.2.1, (hA'.1 sa.i (by omega)).sg]; exact hs)
        · rename_i h2
          have h2' : isSg (tokAt ts st.i) sOpen = false := by simpa using h2
          split at h
          · rename_i h3
            obtain ⟨x, sx, hx, h⟩ := node_ok (show nodeK (nx st) 2 0 0 (fun b st => nodeK st 5 b b .ok) = Rs.ok v s1 from h)
            obtain ⟨y, sy, hy, h⟩ := node_ok h
            cases h
            have hfx := hy.full hf
            have hRx := hy.rows.trans hR
            have hi : s1.i = st.i + 1 := by rw [hy.i, hx.i]; rfl
            obtain ⟨vx, nx1⟩ := hx.again (fit_bot _) hfx hRx
            obtain ⟨vy, ny1⟩ := hy.again (fit_two (.inr (.inr rfl)) vx vx) hf hR
            refine ⟨vy, fun t ht => ?_⟩
            have hal := agree t ht (by omega)
            refine ⟨nx t, fun g => ?_, ((ht.nx).node hx).node hy⟩
            rw [hnew, singleP]
            simp only [take_f, hal.sg, h1', h2', hal.1, hal.2, h3, Bool.false_eq_true, if_false, if_true]
            show nodeK (nx t) 2 0 0 (fun b st => nodeK st 5 b b .ok) = _
            simp only [nodeK, nx1 (nx t) ht.1 ht.2.1, ny1 (nx t) ht.1 ht.2.1]
          · rename_i h3
            split at h
            · rename_i h4
              obtain ⟨x, sx, hx, h⟩ := node_ok (show nodeK (nx st) 2 0 0 .ok = Rs.ok v s1 from h)
              cases h
              have hi : s1.i = st.i + 1 := by rw [hx.i]; rfl
              obtain ⟨vx, nx1⟩ := hx.again (fit_bot _) hf hR
              refine ⟨vx, fun t ht => ?_⟩
              have hal := agree t ht (by omega)
              refine ⟨nx t, fun g => ?_, (ht.nx).node hx⟩
              rw [hnew, singleP]
              simp only [take_f, hal.sg, h1', h2', hal.1, hal.2, h3, h4, Bool.false_eq_true, if_false, if_true]
              show nodeK (nx t) 2 0 0 .ok = _
              simp only [nodeK, nx1 (nx t) ht.1 ht.2.1]
            · rename_i h4
              split at h
              · rename_i h5
                have hw : wordB (tokAt ts st.i).s = true := by simp only [Bool.and_eq_true] at h5; exact h5.2
                have h6 : Rs.ok (nodeP (nx st) 1 (tokAt ts st.i).s 0 0).1 (nodeP (nx st) 1 (tokAt ts st.i).s 0 0).2 = Rs.ok v s1 := h
                have hx : Made (nx st) 1 (tokAt ts st.i).s 0 0 v s1 := by
                  injection h6 with e1 e2
                  show nodeP _ _ _ _ _ = _
                  rw [← e1, ← e2]
                have hi : s1.i = st.i + 1 := by rw [hx.i]; rfl
                obtain ⟨vx, nx1⟩ := hx.again (fit_word hw) hf hR
                refine ⟨vx, fun t ht => ?_⟩
                have hal := agree t ht (by omega)
                refine ⟨nx t, fun g => ?_, (ht.nx).node hx⟩
                rw [hnew, singleP]
                simp only [take_f, hal.sg, h1', h2', hal.1, hal.2, h3, h4, h5, Bool.false_eq_true, if_false, if_true]
                show Rs.ok (nodeP (nx t) 1 (tokAt ts st.i).s 0 0).1 (nodeP (nx t) 1 (tokAt ts st.i).s 0 0).2 = _
                rw [nx1 (nx t) ht.1 ht.2.1]
              · cases h

/-- What was read was there. -/
theorem sg_k {t : Tok} {s : ByteArray} (h : isSg t s = true) : t.k ≠ 0 := by
  unfold isSg at h
  simp only [Bool.and_eq_true, decide_eq_true_eq] at h
  omega
theorem parse_kinds (ts : List Tok) : ∀ (f : Nat) (md : Md) (st : St) (v : Int) (s1 : St), parseP false ts f md st = .ok v s1 → ∀ j, st.i ≤ j → j < s1.i → (tokAt ts j).k ≠ 0 := by
  intro f
  induction f with
  | zero => intro md st v s1 h; cases h
  | succ f ih =>
    intro md st v s1 h j h1 h2
    cases md with
    | formula =>
      rw [parseP] at h
      obtain ⟨a, sa, ha, h⟩ := bind_ok h
      rcases Nat.lt_or_ge j sa.i with hj | hj
      · exact ih _ _ _ _ ha j h1 hj
      rcases sign_ok h with ⟨_, h⟩ | ⟨hs, h⟩
      · cases h; omega
      · obtain ⟨b, sb, hb, h⟩ := bind_ok h
        obtain ⟨x, sx, hx, h⟩ := node_ok h
        obtain ⟨y, sy, hy, h⟩ := node_ok h
        obtain ⟨z, sz, hz, h⟩ := node_ok h
        cases h
        rw [hz.i, hy.i, hx.i] at h2
        rcases Nat.eq_or_lt_of_le hj with rfl | hj
        · exact sg_k hs
        · exact ih _ (nx sa) _ _ hb j hj h2
    | implied =>
      rw [parseP] at h
      obtain ⟨a, sa, ha, h⟩ := bind_ok h
      rcases Nat.lt_or_ge j sa.i with hj | hj
      · exact ih _ _ _ _ ha j h1 hj
      rcases sign_ok h with ⟨_, h⟩ | ⟨hs, h⟩
      · cases h; omega
      · obtain ⟨b, sb, hb, h⟩ := bind_ok h
        obtain ⟨x, sx, hx, h⟩ := node_ok h
        cases h
        rw [hx.i] at h2
        rcases Nat.eq_or_lt_of_le hj with rfl | hj
        · exact sg_k hs
        · exact ih _ (nx sa) _ _ hb j hj h2
    | row lv =>
      rw [parseP] at h
      obtain ⟨a, sa, ha, h⟩ := bind_ok h
      rcases Nat.lt_or_ge j sa.i with hj | hj
      · exact ih _ _ _ _ ha j h1 hj
      · exact ih _ _ _ _ h j hj h2
    | rowL lv a =>
      rw [parseP] at h
      rcases sign_ok h with ⟨_, h⟩ | ⟨hs, h⟩
      · cases h; omega
      · obtain ⟨b, sb, hb, h⟩ := bind_ok h
        obtain ⟨x, sx, hx, h⟩ := node_ok h
        rcases Nat.eq_or_lt_of_le h1 with rfl | hj
        · exact sg_k hs
        · rcases Nat.lt_or_ge j sb.i with hk | hk
          · exact ih _ (nx st) _ _ hb j hj hk
          · exact ih _ _ _ _ h j (by rw [hx.i]; exact hk) h2
    | single =>
      rw [parseP, singleP] at h
      simp only [take_f] at h
      split at h
      · rename_i hs
        obtain ⟨a, sa, ha, h⟩ := bind_ok (show (parseP false ts f .single (nx st)).bind _ = _ from h)
        obtain ⟨x, sx, hx, h⟩ := node_ok h
        obtain ⟨y, sy, hy, h⟩ := node_ok h
        cases h
        rw [hy.i, hx.i] at h2
        rcases Nat.eq_or_lt_of_le h1 with rfl | hj
        · exact sg_k hs
        · exact ih _ (nx st) _ _ ha j hj h2
      · split at h
        · rename_i hs
          split at h
          · cases h
          · obtain ⟨a, sa, ha, h⟩ := bind_ok (show (parseP false ts f .formula (nx { st with nest := st.nest + 1 })).bind _ = _ from h)
            rcases sign_ok h with ⟨_, h⟩ | ⟨hs2, h⟩
            · cases h
            · cases h
              have h2 : j < sa.i + 1 := h2
              rcases Nat.eq_or_lt_of_le h1 with rfl | hj
              · exact sg_k hs
              · rcases Nat.lt_or_ge j sa.i with hk | hk
                · exact ih _ (nx { st with nest := st.nest + 1 }) _ sa ha j hj hk
                · obtain rfl : j = sa.i := by omega
                  exact sg_k hs2
        · have one : (tokAt ts st.i).k = 1 → s1.i = st.i + 1 → (tokAt ts j).k ≠ 0 := fun h3 h4 => by
            obtain rfl : j = st.i := by omega
            omega
          split at h
          · rename_i hs
            simp only [Bool.and_eq_true, decide_eq_true_eq] at hs
            obtain ⟨x, sx, hx, h⟩ := node_ok (show nodeK (nx st) 2 0 0 (fun b st => nodeK st 5 b b .ok) = Rs.ok v s1 from h)
            obtain ⟨y, sy, hy, h⟩ := node_ok h
            cases h
            exact one hs.1 (by rw [hy.i, hx.i]; rfl)
          · split at h
            · rename_i hs
              simp only [Bool.and_eq_true, decide_eq_true_eq] at hs
              obtain ⟨x, sx, hx, h⟩ := node_ok (show nodeK (nx st) 2 0 0 .ok = Rs.ok v s1 from h)
              cases h
              exact one hs.1 (by rw [hx.i]; rfl)
            · split at h
              · rename_i hs
                simp only [Bool.and_eq_true, decide_eq_true_eq] at hs
                have h6 : Rs.ok (nodeP (nx st) 1 (tokAt ts st.i).s 0 0).1 (nodeP (nx st) 1 (tokAt ts st.i).s 0 0).2 = Rs.ok v s1 := h
                injection h6 with _ e2
                exact one hs.1 (by rw [← e2, (nodeP_ext (nx st) 1 _ 0 0).2]; rfl)
              · cases h
end Go.Proofs.YtglnmkdlcbkpeaaGreatDoor
/- token: a text in parentheses, a line's end ahead of the last one: its tokens. -/
set_option linter.unusedVariables false
set_option linter.unusedSimpArgs false
namespace Go.Proofs.YtglnmkdlcbkpeaaGreatDoor
open Go.RowKit

def tl2 : List UInt8 := [10, 41]
theorem decodeGo_L (s : ByteArray) (h : 0 < s.size) : Lib.decodeGo s = Lib.decodeL s.data.toList := by
  have hz : ¬ s.size = 0 := by omega
  rw [Lib.decodeGo, if_neg hz, Lib.decodeL]
theorem decodeN_tail (n b0 b1 b2 b3 c1 c2 c3 : Nat) (h1 : 1 ≤ n) (e1 : if 1 < n then c1 = b1 else c1 / 64 ≠ 2) (e2 : if 2 < n then c2 = b2 else n = 2 → c2 / 64 ≠ 2) (e3 : if 3 < n then c3 = b3 else n = 3 → c3 / 64 ≠ 2) :
    Lib.decodeN (n + 2) b0 c1 c2 c3 = Lib.decodeN n b0 b1 b2 b3 := by
  by_cases n1 : 1 < n
  · rw [if_pos n1] at e1
    subst e1
    by_cases n2 : 2 < n
    · rw [if_pos n2] at e2
      subst e2
      by_cases n3 : 3 < n
      · rw [if_pos n3] at e3
        subst e3
        simp only [Lib.decodeN, n1, n2, n3, show 1 < n + 2 by omega, show 2 < n + 2 by omega, show 3 < n + 2 by omega, true_and]
      · have h3 : n = 3 := by omega
        subst h3
        have h4 := e3
        simp only [Nat.lt_irrefl, if_false, forall_const] at h4
        simp [Lib.decodeN, h4]
    · have h2 : n = 2 := by omega
      subst h2
      simp only [Nat.lt_irrefl, if_false, forall_const] at e2
      simp [Lib.decodeN, e2]
  · have h2 : n = 1 := by omega
    subst h2
    simp only [Nat.lt_irrefl, if_false] at e1
    simp [Lib.decodeN, e1]
theorem getD_at (l : List UInt8) (i : Nat) : (l ++ tl2).getD i 0 = if i < l.length then l.getD i 0 else if i = l.length then 10 else if i = l.length + 1 then 41 else 0 := by
  simp only [List.getD_eq_getElem?_getD, List.getElem?_append]
  split
  · rfl
  · split
    · rename_i h1 h2; subst h2; simp [tl2]
    · split
      · rename_i h1 h2 h3; subst h3; simp [tl2]
      · rw [show tl2[i - l.length]? = none from List.getElem?_eq_none (by simp [tl2]; omega)]; rfl
theorem decode_ext (l : List UInt8) (h : l ≠ []) : Lib.decodeL (l ++ tl2) = Lib.decodeL l := by
  have hl : 0 < l.length := List.length_pos_iff.2 h
  rw [Lib.decodeL_N, Lib.decodeL_N, List.length_append, show tl2.length = 2 from rfl, getD_at l 0, if_pos hl]
  have t10 : (10 : UInt8).toNat / 64 ≠ 2 := by decide
  refine decodeN_tail _ _ _ _ _ _ _ _ hl ?_ ?_ ?_
  · rw [getD_at]
    split
    · rfl
    · rw [if_pos (by omega)]; exact t10
  · rw [getD_at]
    split
    · rfl
    · intro h2; rw [if_pos (by omega)]; exact t10
  · rw [getD_at]
    split
    · rfl
    · intro h2; rw [if_pos (by omega)]; exact t10
theorem runP_ext (p : Nat → Bool) (hp : p 10 = false) : ∀ l : List UInt8, runP p (l ++ tl2) = runP p l
  | [] => by rw [List.nil_append, tl2, runP_cons]; simp [hp]; rfl
  | c :: l => by rw [List.cons_append, runP_cons, runP_cons, runP_ext p hp l]
theorem pre_ext : ∀ (x l : List UInt8), (10 : UInt8) ∉ x → Lib.hasPrefix (l ++ tl2) x = Lib.hasPrefix l x
  | [], l, _ => by simp [Lib.hasPrefix]
  | a :: x, [], h => by
    have : ¬ a = 10 := fun e => h (by simp [e])
    simp [Lib.hasPrefix, tl2, List.isPrefixOf, this]
  | a :: x, b :: l, h => by
    have ih := pre_ext x l (fun hm => h (by simp [hm]))
    simp only [Lib.hasPrefix, List.cons_append, List.isPrefixOf] at ih ⊢
    rw [ih]
theorem find_congr {α : Type} {p q : α → Bool} : ∀ {l : List α}, (∀ x ∈ l, p x = q x) → l.find? p = l.find? q
  | [], _ => rfl
  | a :: l, h => by rw [List.find?_cons, List.find?_cons, h a (by simp), find_congr (fun x hx => h x (by simp [hx]))]
theorem index_ext : ∀ l : List UInt8, Lib.indexByte (l ++ tl2) 10 = if Lib.indexByte l 10 < 0 then (l.length : Int) else Lib.indexByte l 10
  | [] => by simp [Lib.indexByte, tl2]
  | b :: l => by
    have ih := index_ext l
    have h1 := Lib.indexByte_ge l 10
    simp only [List.cons_append, Lib.indexByte, ih, List.length_cons]
    by_cases hb : (b == 10) = true
    · simp [hb]
    · simp only [hb, Bool.false_eq_true, if_false]
      by_cases hi : Lib.indexByte l 10 < 0
      · have : Lib.indexByte l 10 = -1 := by omega
        have h2 : ¬ ((l.length : Int) == -1) = true := by rw [beq_iff_eq]; omega
        simp only [this, h2, Bool.false_eq_true, if_false]
        simp
      · have h2 : ¬ (Lib.indexByte l 10 == -1) = true := by simp; omega
        simp only [if_neg hi, h2, Bool.false_eq_true, if_false]
        rw [if_neg (by omega)]
theorem blank_ext (l : List UInt8) (h : l ≠ []) : blankN (l ++ tl2) = blankN l := by
  have hi := index_ext l
  cases l with
  | nil => exact absurd rfl h
  | cons c l =>
    simp only [blankN, List.cons_append] at hi ⊢
    rw [hi]
    by_cases hx : Lib.indexByte (c :: l) 10 < 0
    · have hn : ¬ (((c :: l).length : Int) < 0) := by omega
      simp only [if_pos hx, if_neg hn, Int.toNat_natCast]
    · simp only [if_neg hx]

/-- A rest and the same rest with a line's end and a parenthesis behind it. -/
def Tl (r r2 : ByteArray) : Prop := r2.data.toList = r.data.toList ++ tl2
theorem ba_eq {a b : ByteArray} (h : a.data.toList = b.data.toList) : a = b := by
  have := sameB_eq a b
  rw [sameB, decide_eq_true h] at this
  exact of_decide_eq_true this.symm
theorem Tl.size {r r2 : ByteArray} (h : Tl r r2) : r2.size = r.size + 2 := by
  show r2.data.size = r.data.size + 2
  rw [← Array.length_toList, ← Array.length_toList, h]; simp [tl2]
theorem Tl.take {r r2 : ByteArray} (h : Tl r r2) {n : Nat} (hn : n ≤ r.size) : r2.extract 0 n = r.extract 0 n := by
  apply ba_eq
  have hl : n ≤ r.data.toList.length := by rw [Array.length_toList]; exact hn
  have e1 : ∀ x : ByteArray, (x.extract 0 n).data.toList = x.data.toList.take n := fun x => by simp [ByteArray.data_extract, Array.toList_extract]
  rw [e1, e1, h, List.take_append_of_le_length hl]
theorem ne_nil {r : ByteArray} (h : 0 < r.size) : r.data.toList ≠ [] := by
  intro e
  have : r.data.toList.length = 0 := by rw [e]; rfl
  rw [Array.length_toList] at this
  have h2 : r.data.size = r.size := rfl
  omega
theorem Tl.dec {r r2 : ByteArray} (h : Tl r r2) (h0 : 0 < r.size) : Lib.decodeGo r2 = Lib.decodeGo r := by
  rw [decodeGo_L r h0, decodeGo_L r2 (by rw [h.size]; omega), h, decode_ext _ (ne_nil h0)]
theorem no_ten : ∀ x ∈ sgB, (10 : UInt8) ∉ x.data.toList := by decide +kernel
theorem Tl.sign {r r2 : ByteArray} (h : Tl r r2) (h0 : 0 < r.size) : signP r2 = signP r := by
  unfold signP
  rw [find_congr (q := isPre r) (fun x hx => by rw [isPre, isPre, h, pre_ext _ _ (no_ten x hx)]), h.dec h0]
theorem tail_ten : (decide (isTail 10)) = false := by decide
theorem dig_ten : (decide (isDig 10)) = false := by decide
theorem Tl.head {r r2 : ByteArray} (h : Tl r r2) (h0 : 0 < r.size) : r2.data.toList.head? = r.data.toList.head? := by
  rw [h]
  cases hl : r.data.toList with
  | nil => exact absurd hl (ne_nil h0)
  | cons c l => rfl
theorem Tl.digE {r r2 : ByteArray} (h : Tl r r2) : digN r2 = digN r := by
  rw [digN, digN, h, runP_ext _ dig_ten]
theorem digN_le (r : ByteArray) : digN r ≤ r.size := by
  have := runP_le (fun c => decide (isDig c)) r.data.toList
  rw [digN]; simpa using this
theorem Tl.numVE {r r2 : ByteArray} (h : Tl r r2) : numV r2 = numV r := by
  rw [numV, numV, h.digE, h.take (digN_le r)]
theorem Tl.numBadE {r r2 : ByteArray} (h : Tl r r2) (h0 : 0 < r.size) : numBad r2 = numBad r := by
  have hl : r.data.toList.length = r.size := Array.length_toList
  rw [numBad, numBad, h.digE, h.numVE, h, getD_at, getD_at, hl, h.size, if_pos h0]
  have := digN_le r
  by_cases hn : digN r < r.size
  · have hn2 : digN r < r.size + 2 := by omega
    simp only [hn, hn2, if_true]
  · have hn2 : digN r < r.size + 2 := by omega
    have he : digN r = r.size := by omega
    have ht : ¬ isTail 10 := of_decide_eq_false tail_ten
    simp only [hn, hn2, if_false, he, if_true]
    simp [ht]
theorem Tl.word {r r2 : ByteArray} (h : Tl r r2) (h0 : 0 < r.size) : wordP r2 = wordP r := by
  have h1 : runP (fun c => decide (isTail c)) r.data.toList ≤ r.size := by
    have := runP_le (fun c => decide (isTail c)) r.data.toList
    simpa using this
  unfold wordP
  rw [h.head h0, h.dec h0, h.sign h0, h.numBadE h0, h.digE, h, runP_ext _ tail_ten, h.take h1]
theorem Tl.num {r r2 : ByteArray} (h : Tl r r2) (h0 : 0 < r.size) : numW r2 = numW r := by
  unfold numW
  rw [h.head h0, h.numBadE h0, h.numVE]

/-- The text in parentheses. -/
def Par (s s2 : ByteArray) : Prop := s2.data.toList = 40 :: (s.data.toList ++ tl2)
theorem Par.size {s s2 : ByteArray} (h : Par s s2) : s2.size = s.size + 3 := by
  show s2.data.size = s.data.size + 3
  rw [← Array.length_toList, ← Array.length_toList, h]; simp [tl2]
theorem Par.drop {s s2 : ByteArray} (h : Par s s2) {o : Nat} (ho : o ≤ s.size) : s2.data.toList.drop (o + 1) = s.data.toList.drop o ++ tl2 := by
  rw [h, List.drop_succ_cons, List.drop_append_of_le_length (by rw [Array.length_toList]; exact ho)]
theorem Par.rest {s s2 : ByteArray} (h : Par s s2) {o : Nat} (ho : o ≤ s.size) : Tl (s.extract o s.size) (s2.extract (o + 1) s2.size) := by
  rw [Tl, rest_list, rest_list, h.drop ho]
theorem Par.stepE {s s2 : ByteArray} (h : Par s s2) {p p' : Sp} (hp : p'.o = p.o + 1) (ho : p.o < s.size) : (stepS s2 p').o = (stepS s p).o + 1 := by
  have hd := (h.rest (Nat.le_of_lt ho)).dec (by rw [rest_size _ _ (Nat.le_of_lt ho)]; omega)
  rw [← hp] at hd
  unfold stepS
  simp only [hd]
  split <;> split <;> (simp only; omega)
theorem Par.skipPE {s s2 : ByteArray} (h : Par s s2) {e : Nat} (he : e ≤ s.size) : ∀ (f : Nat) (p p' : Sp), p'.o = p.o + 1 → (skipP s2 (e + 1) f p').o = (skipP s e f p).o + 1
  | 0, p, p', hp => hp
  | f + 1, p, p', hp => by
    rw [skipP, skipP]
    by_cases hl : p.o < e
    · rw [if_pos hl, if_pos (by omega)]
      exact Par.skipPE h he f _ _ (h.stepE hp (by omega))
    · rw [if_neg hl, if_neg (by omega)]
      exact hp
theorem Par.skipQE {s s2 : ByteArray} (h : Par s s2) {n : Nat} {p p' : Sp} (hp : p'.o = p.o + 1) (hn : p.o + n ≤ s.size) : (skipQ s2 p' n).o = (skipQ s p n).o + 1 := by
  rw [skipQ, skipQ, hp, show p.o + 1 + n = p.o + n + 1 by omega]
  exact h.skipPE hn n p p' hp
theorem two_dec : (Lib.decodeGo ⟨#[10, 41]⟩).2 = 1 := by kernel_rfl
theorem shut_word : wordP ⟨#[41]⟩ = some ((3, ⟨#[41]⟩), 1, 0) := by kernel_rfl
theorem shut_dec : (Lib.decodeGo ⟨#[41]⟩).2 = 1 := by kernel_rfl
theorem stepS_at (s : ByteArray) (p : Sp) (r : ByteArray) (hr : (s.extract p.o s.size).data.toList = r.data.toList) (hd : (Lib.decodeGo r).2 = 1) : (stepS s p).o = p.o + 1 := by
  rw [stepS, ba_eq hr]
  simp only [hd]
  split <;> rfl
theorem Par.space {s s2 : ByteArray} (h : Par s s2) : ∀ (f g : Nat) (p p' : Sp), SpOk s p → s.size < p.o + f → f < g → p'.o = p.o + 1 →
    ((spaceP s f p).o < s.size ∧ (spaceP s2 g p').o = (spaceP s f p).o + 1) ∨ ((spaceP s f p).o = s.size ∧ (spaceP s2 g p').o = s.size + 2) := by
  intro f
  induction f with
  | zero => intro g p p' hok hf hg hp; have := hok.2.2.2.2; omega
  | succ f ih =>
    intro g p p' hok hf hg hp
    obtain ⟨g, rfl⟩ : ∃ g', g = g' + 1 := ⟨g - 1, by omega⟩
    have ho := hok.2.2.2.2
    rw [spaceP, spaceP]
    by_cases hl : p.o < s.size
    · have hne : s.data.toList.drop p.o ≠ [] := by rw [drop_rest s p.o hl]; simp
      have hb : blankN (s2.data.toList.drop p'.o) = blankN (s.data.toList.drop p.o) := by rw [hp, h.drop ho, blank_ext _ hne]
      rw [hb]
      cases hbn : blankN (s.data.toList.drop p.o) with
      | none => exact .inl ⟨hl, hp⟩
      | some n =>
        obtain ⟨h1, h2, h3⟩ := blankN_le s p.o n hbn
        have hk := skipQ_o s p n h3
        exact ih g _ _ (skipP_ok s (p.o + n) h3 n p hok).1 (by omega) (by omega) (h.skipQE hp h3)
    · have he : p.o = s.size := by omega
      have h1 : s.data.toList.drop p.o = [] := List.drop_of_length_le (by rw [Array.length_toList]; show s.size ≤ p.o; omega)
      have h2 : s2.data.toList.drop p'.o = tl2 := by rw [hp, h.drop ho, h1]; rfl
      rw [h1, h2]
      have hs2 := h.size
      have hstep : (skipQ s2 p' 1).o = s.size + 2 := by
        rw [skipQ, skipP, if_pos (by omega), skipP, stepS_at s2 p' ⟨#[10, 41]⟩ (by rw [rest_list, h2]; rfl) two_dec]
        omega
      refine .inr ⟨he, ?_⟩
      show (spaceP s2 g (skipQ s2 p' 1)).o = _
      obtain ⟨g, rfl⟩ : ∃ g', g = g' + 1 := ⟨g - 1, by omega⟩
      rw [spaceP]
      have h4 : s2.data.toList.drop (skipQ s2 p' 1).o = [41] := by
        rw [hstep, h, List.drop_succ_cons, show s.size + 1 = s.data.toList.length + 1 by rw [Array.length_toList]; rfl, ← List.drop_drop, List.drop_left]
        rfl
      rw [h4]
      exact hstep
def kd (t : Tok) : Int × ByteArray := (t.k, t.s)
theorem wordP_k {s : ByteArray} {r : (Int × ByteArray) × Nat × Int} (h : wordP s = some r) (h0 : r.2.2 = 0) : r.1.1 ≠ 0 := by
  unfold wordP at h
  split at h
  · cases h
  · split at h
    · split at h
      · cases h; cases h0
      · cases h; simp
    · split at h
      · split at h
        · cases h; cases h0
        · cases h; simp
      · split at h
        · cases h; simp
        · split at h
          · cases h; simp
          · split at h
            · cases h; cases h0
            · cases h; simp
theorem Par.scan {s s2 : ByteArray} (h : Par s s2) (pre : List Tok) : ∀ (f : Nat) (p p' : Sp) (acc acc' ts : List Tok), SpOk s p → p'.o = p.o + 1 → scanP s f p acc = some (ts, Flt.ok) → acc'.map kd = acc.map kd → (∀ t ∈ acc, t.k ≠ 0) →
    ∃ b b' e sh e', ts = b ++ [e] ∧ e.k = 0 ∧ (∀ t ∈ b, t.k ≠ 0) ∧ scanP s2 (f + 1) p' (pre ++ acc') = some (pre ++ (b' ++ [sh, e']), Flt.ok) ∧ b'.map kd = b.map kd ∧ kd sh = (3, sShut) ∧ e'.k = 0 := by
  intro f
  induction f with
  | zero => intro p p' acc acc' ts hok hp hsc; simp [scanP] at hsc
  | succ f ih =>
    intro p p' acc acc' ts hok hp hsc hm hk
    have hs2 := h.size
    obtain ⟨k1, k2⟩ := spaceP_ok s (s.size + 1) p hok
    change SpOk s (spaceQ s p) at k1
    have hsp := h.space (s.size + 1) (s2.size + 1) p p' hok (by omega) (by omega) hp
    change ((spaceQ s p).o < s.size ∧ (spaceQ s2 p').o = (spaceQ s p).o + 1) ∨ ((spaceQ s p).o = s.size ∧ (spaceQ s2 p').o = s.size + 2) at hsp
    rw [scanP] at hsc ⊢
    try simp only at hsc ⊢
    generalize spaceQ s p = q at *
    generalize spaceQ s2 p' = q' at *
    rcases hsp with ⟨hq, hq'⟩ | ⟨hq, hq'⟩
    · rw [if_neg (by omega)] at hsc
      rw [if_neg (by omega)]
      have hr0 : 0 < (s.extract q.o s.size).size := by rw [rest_size _ _ (by omega)]; omega
      have hT := h.rest (Nat.le_of_lt hq)
      rw [← hq'] at hT
      rw [hT.word hr0, hT.num hr0]
      cases hw : wordP (s.extract q.o s.size) with
      | none => rw [hw] at hsc; cases hsc
      | some r =>
        rw [hw] at hsc
        simp only at hsc ⊢
        obtain ⟨w1, w2, w3⟩ := wordP_le _ r hw
        rw [rest_size s q.o (by omega)] at w1
        by_cases h0 : r.2.2 = 0
        · rw [if_neg (by simpa using h0)] at hsc
          rw [if_neg (by simpa using h0)]
          have hn : q.o + r.2.1 ≤ s.size := by omega
          rw [List.append_assoc]
          refine ih _ _ _ _ ts (skipP_ok s (q.o + r.2.1) hn r.2.1 q k1).1 (h.skipQE hq' hn) hsc (by simp [hm, kd]) ?_
          intro t ht
          rcases List.mem_append.1 ht with ht | ht
          · exact hk t ht
          · simp at ht
            subst ht
            exact wordP_k hw h0
        · rw [if_pos (by simpa using h0)] at hsc
          have hz : r.2.2 = 0 := by
            have := congrArg (fun x => (x.map fun y => y.2.e)) hsc
            simpa [Flt.ok] using this
          exact absurd hz h0
    · rw [if_pos hq] at hsc
      rw [if_neg (by omega)]
      have hrest : s2.extract q'.o s2.size = ⟨#[41]⟩ := by
        apply ba_eq
        rw [rest_list, hq', h, List.drop_succ_cons, show s.size + 1 = s.data.toList.length + 1 by rw [Array.length_toList]; rfl, ← List.drop_drop, List.drop_left]
        rfl
      rw [hrest, shut_word]
      simp only
      rw [if_neg (by simp)]
      have hts : acc ++ [⟨0, noText, 0, q.l, q.c, q.o⟩] = ts := congrArg Prod.fst (Option.some.inj hsc)
      subst hts
      have hstep : (skipQ s2 q' 1).o = s2.size := by
        rw [skipQ, skipP, if_pos (by omega), skipP, stepS_at s2 q' ⟨#[41]⟩ (by rw [hrest]) shut_dec]
        omega
      generalize skipQ s2 q' 1 = q2 at *
      rw [scanP]
      have hsp2 : spaceQ s2 q2 = q2 := by
        rw [spaceQ, spaceP, List.drop_of_length_le (by rw [Array.length_toList]; show s2.size ≤ q2.o; omega)]
        rfl
      rw [hsp2]
      try simp only
      rw [if_pos hstep]
      exact ⟨acc, acc', _, ⟨3, ⟨#[41]⟩, numW ⟨#[41]⟩, q'.l, q'.c, q'.o⟩, ⟨0, noText, 0, q2.l, q2.c, q2.o⟩, rfl, rfl, hk, by simp, hm, rfl, rfl⟩
theorem open_word (l : List UInt8) : wordP ⟨⟨40 :: l⟩⟩ = some ((3, sOpen), 1, 0) := by
  have hd : Lib.decodeGo ⟨⟨40 :: l⟩⟩ = (40, 1) := by
    have hs : 0 < (⟨⟨40 :: l⟩⟩ : ByteArray).size := by show 0 < (40 :: l).length; simp
    rw [decodeGo_L _ hs, Lib.decodeL_N]
    simp [Lib.decodeN]
  have hsg : signP ⟨⟨40 :: l⟩⟩ = (sOpen, 1) := by
    rw [signP, hd]
    have : sgB.find? (isPre ⟨⟨40 :: l⟩⟩) = some sOpen := by
      simp [sgB, List.find?_cons, isPre, Lib.hasPrefix, List.isPrefixOf, sOpen]
    rw [this]
    rfl
  unfold wordP
  rw [hd, hsg]
  rfl
theorem Par.tokens {s s2 : ByteArray} (h : Par s s2) {ts : List Tok} (hsc : scanQ s = some (ts, Flt.ok)) :
    ∃ o b b' e sh e', ts = b ++ [e] ∧ e.k = 0 ∧ (∀ t ∈ b, t.k ≠ 0) ∧ scanQ s2 = some (o :: (b' ++ [sh, e']), Flt.ok) ∧ kd o = (3, sOpen) ∧ b'.map kd = b.map kd ∧ kd sh = (3, sShut) ∧ e'.k = 0 := by
  have hs2 := h.size
  have he : s2 = ⟨⟨40 :: (s.data.toList ++ tl2)⟩⟩ := ba_eq h
  have hw : wordP s2 = some ((3, sOpen), 1, 0) := by rw [he]; exact open_word _
  have h40 : s2.data.toList.drop 0 = 40 :: (s.data.toList ++ tl2) := h
  have hsp : spaceQ s2 ⟨1, 1, 0⟩ = ⟨1, 1, 0⟩ := by
    rw [spaceQ, spaceP, h40]
    rfl
  have hall : s2.extract 0 s2.size = s2 := by
    apply ba_eq
    rw [rest_list]; rfl
  have hd : (Lib.decodeGo s2).2 = 1 := by
    have hs : 0 < s2.size := by omega
    rw [decodeGo_L _ hs, Lib.decodeL_N, h]
    simp [Lib.decodeN]
  have hstep : (skipQ s2 ⟨1, 1, 0⟩ 1).o = 0 + 1 := by
    rw [skipQ, skipP, if_pos (by simp), skipP, stepS_at s2 ⟨1, 1, 0⟩ s2 (by rw [hall]) hd]
  obtain ⟨b, b', e, sh, e', c1, c2, c3, c4, c5, c6, c7⟩ := h.scan [⟨3, sOpen, numW s2, 1, 1, 0⟩] (s.size + 1) ⟨1, 1, 0⟩ (skipQ s2 ⟨1, 1, 0⟩ 1) [] [] ts ⟨by decide, by decide, by decide, by decide, Nat.zero_le _⟩ hstep hsc rfl (by simp)
  refine ⟨⟨3, sOpen, numW s2, 1, 1, 0⟩, b, b', e, sh, e', c1, c2, c3, ?_, rfl, c5, c6, c7⟩
  rw [scanQ, hs2, scanP, hsp]
  try simp only
  rw [if_neg (by omega), hall, hw]
  simp only
  rw [if_neg (by simp)]
  have := scanP_more s2 (s.size + 1 + 1) 1 _ _ _ c4
  exact this
end Go.Proofs.YtglnmkdlcbkpeaaGreatDoor
/- syntax: what Parse leaves is a table; the same text once more is the same; in parentheses, too. -/
set_option linter.unusedVariables false
set_option linter.unusedSimpArgs false
namespace Go.Proofs.YtglnmkdlcbkpeaaGreatDoor
open Go.RowKit

/-! What each node keeps is kept. -/
theorem Made.inv {I : List Nd → Prop} (hI : ∀ rows d, I rows → I (putR rows d).2.2) {st : St} {k : Int} {s : ByteArray} {a b x : Int} {s1 : St} (h : Made st k s a b x s1) (h0 : I st.rows) : I s1.rows := by
  unfold Made nodeP at h
  split at h
  · cases h; exact h0
  · have := congrArg (fun y => y.2.rows) h
    simp only at this
    rw [← this]
    exact hI _ _ h0
theorem parse_inv {I : List Nd → Prop} (hI : ∀ rows d, I rows → I (putR rows d).2.2) (ts : List Tok) : ∀ (f : Nat) (md : Md) (st : St) (v : Int) (s1 : St), parseP false ts f md st = .ok v s1 → I st.rows → I s1.rows := by
  intro f
  induction f with
  | zero => intro md st v s1 h; cases h
  | succ f ih =>
    intro md st v s1 h hi
    cases md with
    | formula =>
      rw [parseP] at h
      obtain ⟨a, sa, ha, h⟩ := bind_ok h
      have i1 := ih _ _ _ _ ha hi
      rcases sign_ok h with ⟨_, h⟩ | ⟨_, h⟩
      · cases h; exact i1
      · obtain ⟨b, sb, hb, h⟩ := bind_ok h
        obtain ⟨x, sx, hx, h⟩ := node_ok h
        obtain ⟨y, sy, hy, h⟩ := node_ok h
        obtain ⟨z, sz, hz, h⟩ := node_ok h
        cases h
        exact hz.inv hI (hy.inv hI (hx.inv hI (ih _ (nx _) _ _ hb i1)))
    | implied =>
      rw [parseP] at h
      obtain ⟨a, sa, ha, h⟩ := bind_ok h
      have i1 := ih _ _ _ _ ha hi
      rcases sign_ok h with ⟨_, h⟩ | ⟨_, h⟩
      · cases h; exact i1
      · obtain ⟨b, sb, hb, h⟩ := bind_ok h
        obtain ⟨x, sx, hx, h⟩ := node_ok h
        cases h
        exact hx.inv hI (ih _ (nx _) _ _ hb i1)
    | row lv =>
      rw [parseP] at h
      obtain ⟨a, sa, ha, h⟩ := bind_ok h
      exact ih _ _ _ _ h (ih _ _ _ _ ha hi)
    | rowL lv a =>
      rw [parseP] at h
      rcases sign_ok h with ⟨_, h⟩ | ⟨_, h⟩
      · cases h; exact hi
      · obtain ⟨b, sb, hb, h⟩ := bind_ok h
        obtain ⟨x, sx, hx, h⟩ := node_ok h
        exact ih _ _ _ _ h (hx.inv hI (ih _ (nx _) _ _ hb hi))
    | single =>
      rw [parseP, singleP] at h
      simp only [take_f] at h
      split at h
      · obtain ⟨a, sa, ha, h⟩ := bind_ok (show (parseP false ts f .single (nx st)).bind _ = _ from h)
        obtain ⟨x, sx, hx, h⟩ := node_ok h
        obtain ⟨y, sy, hy, h⟩ := node_ok h
        cases h
        exact hy.inv hI (hx.inv hI (ih _ (nx _) _ _ ha hi))
      · split at h
        · split at h
          · cases h
          · obtain ⟨a, sa, ha, h⟩ := bind_ok (show (parseP false ts f .formula (nx { st with nest := st.nest + 1 })).bind _ = _ from h)
            rcases sign_ok h with ⟨_, h⟩ | ⟨_, h⟩
            · cases h
            · cases h
              exact ih _ (nx { st with nest := st.nest + 1 }) _ sa ha hi
        · split at h
          · obtain ⟨x, sx, hx, h⟩ := node_ok (show nodeK (nx st) 2 0 0 (fun b st => nodeK st 5 b b .ok) = Rs.ok v s1 from h)
            obtain ⟨y, sy, hy, h⟩ := node_ok h
            cases h
            exact hy.inv hI (Made.inv (st := nx st) hI hx hi)
          · split at h
            · obtain ⟨x, sx, hx, h⟩ := node_ok (show nodeK (nx st) 2 0 0 .ok = Rs.ok v s1 from h)
              cases h
              exact Made.inv (st := nx st) hI hx hi
            · split at h
              · have h2 : Rs.ok _ _ = Rs.ok v s1 := h
                injection h2 with _ h2
                subst h2
                exact Made.inv (st := nx st) hI rfl hi
              · cases h
def okT (rows : List Nd) : Prop := okRows rows ∧ rows.length ≤ 1024
theorem ok_put (rows : List Nd) (d : Nd) (h : okT rows) : okT (putR rows d).2.2 := by
  by_cases hf : fitsN rows.length d = 0
  · cases hfi : findN rows d with
    | some i => rw [putR_found hf hfi]; exact h
    | none =>
      by_cases hn : 1024 ≤ rows.length
      · rw [putR_full hf hfi hn]; exact h
      · rw [putR_new hf hfi hn]
        refine ⟨fun i hi => ?_, by simp; omega⟩
        simp only at hi
        rcases Nat.lt_or_ge i rows.length with hl | hl
        · have := h.1 i hl
          rw [okAt] at this ⊢
          rw [List.getElem_append_left hl, List.take_append_of_le_length (by omega), List.take_append_of_le_length (by omega)]
          exact this
        · have he : i = rows.length := by simp at hi; omega
          subst he
          rw [okAt]
          simp only [List.take_left', List.getElem_concat_length]
          rw [putR_new hf hfi hn, List.take_of_length_le (by simp)]
  · rw [putR_unfit hf]; exact h

theorem scanP_ok0 (s : ByteArray) : ∀ (f : Nat) (p : Sp) (acc : List Tok) (ts : List Tok) (fl : Flt), scanP s f p acc = some (ts, fl) → fl.e = 0 → fl = Flt.ok := by
  intro f
  induction f with
  | zero => intro p acc ts fl h; simp [scanP] at h
  | succ f ih =>
    intro p acc ts fl h he
    rw [scanP] at h
    try simp only at h
    split at h
    · exact (congrArg Prod.snd (Option.some.inj h)).symm
    · split at h
      · cases h
      · split at h
        · rename_i r _ h0
          have := congrArg Prod.snd (Option.some.inj h)
          simp only at this
          subst this
          exact absurd he h0
        · exact ih _ _ _ _ h he
theorem scan_ok (s : ByteArray) (ts : List Tok) (fl : Flt) (h : scanQ s = some (ts, fl)) (he : fl.e = 0) : fl = Flt.ok := scanP_ok0 s _ _ _ _ _ h he
theorem whole_inv {E : Env} {st : St} {be v : Int} {s1 : St} (h : wholeP E st be = .ok v s1) : formQ E st = .ok v s1 ∧ (tokAt E.ts s1.i).k = 0 ∧ be = 0 := by
  unfold wholeP at h
  obtain ⟨a, sa, ha, h⟩ := bind_ok h
  split at h
  · cases h
  · rename_i hc
    cases h
    simp only [Bool.or_eq_true, decide_eq_true_eq, not_or, Decidable.not_not] at hc
    exact ⟨ha, hc.1, hc.2⟩
theorem whole_of {E : Env} {st : St} {v : Int} {s1 : St} (h : formQ E st = .ok v s1) (hk : (tokAt E.ts s1.i).k = 0) : wholeP E st 0 = .ok v s1 := by
  unfold wholeP
  rw [h]
  simp [Rs.bind, hk]
theorem parseQ_inv {rows : List Nd} {s : ByteArray} {v : Int} {f : Flt} {R : List Nd} (h : parseQ rows s = some (v, f, R)) :
    (f.e ≠ 0 ∧ v = 0 ∧ R = rows) ∨ (f = Flt.ok ∧ ∃ ts st, scanQ s = some (ts, Flt.ok) ∧ firstBig ts 0 = none ∧ formQ (envT false ts) (st0 rows) = .ok v st ∧ (tokAt ts st.i).k = 0 ∧ st.full = false ∧ st.rows = R) := by
  unfold parseQ at h
  cases ha : aheadQ s with
  | none => rw [ha] at h; cases h
  | some y =>
    obtain ⟨ts, fl⟩ := y
    rw [ha] at h
    have h := Option.some.inj h
    unfold parseT at h
    simp only at h
    split at h
    · obtain ⟨h1, h2⟩ := Prod.mk.inj h
      obtain ⟨h2, h3⟩ := Prod.mk.inj h2
      exact .inl ⟨by rw [← h2]; simp, h1.symm, h3.symm⟩
    · rename_i hfb
      rcases out_read rows _ (whole_bad (envT false ts) (st0 rows) fl.e) (whole_out (envT false ts) (st0 rows) fl.e) with ⟨hne, hq⟩ | ⟨v', st, hr, hfl, hro, hq⟩
      · rw [hq] at h
        obtain ⟨h1, h2⟩ := Prod.mk.inj h
        obtain ⟨h2, h3⟩ := Prod.mk.inj h2
        refine .inl ⟨by rw [← h2]; exact hne, h1.symm, ?_⟩
        rw [← h3]
        generalize wholeP (envT false ts) (st0 rows) fl.e = r at *
        cases r with
        | out => simp [outQ, readOut] at hq hne; exact absurd rfl hne
        | bad f rws => rfl
        | ok v st => simp only [readOut] at hne ⊢; split <;> rename_i hc <;> simp_all [st0, Flt.ok]
      · rw [hq] at h
        obtain ⟨h1, h2⟩ := Prod.mk.inj h
        obtain ⟨h2, h3⟩ := Prod.mk.inj h2
        obtain ⟨w1, w2, w3⟩ := whole_inv hr
        refine .inr ⟨h2.symm, ts, st, ?_, hfb, by rw [← h1]; exact w1, w2, hfl, h3⟩
        unfold aheadQ at ha
        cases hs : scanQ s with
        | none => rw [hs] at ha; cases ha
        | some z =>
          obtain ⟨ts2, f2⟩ := z
          rw [hs] at ha
          simp only at ha
          by_cases hf2 : f2.e = 0
          · rw [if_pos hf2] at ha
            obtain ⟨e1, e2⟩ := Prod.mk.inj (Option.some.inj ha)
            subst e1
            have := scan_ok s ts2 f2 hs hf2
            rw [this]
          · rw [if_neg hf2] at ha
            exfalso
            cases hl : scanQ (s.extract 0 f2.o.toNat) with
            | none => rw [hl] at ha; cases ha
            | some y =>
              rw [hl] at ha
              obtain ⟨e1, e2⟩ := Prod.mk.inj (Option.some.inj ha)
              rw [e2] at hf2
              exact hf2 w3
theorem parseQ_of {rows : List Nd} {s : ByteArray} {ts : List Tok} {v : Int} {st : St} (hs : scanQ s = some (ts, Flt.ok)) (hfb : firstBig ts 0 = none) (hf : formQ (envT false ts) (st0 rows) = .ok v st) (hk : (tokAt ts st.i).k = 0) (hfl : st.full = false) :
    parseQ rows s = some (v, Flt.ok, st.rows) := by
  have ha : aheadQ s = some (ts, Flt.ok) := by unfold aheadQ; rw [hs]; rfl
  unfold parseQ
  rw [ha]
  simp only [Option.map_some, parseT, hfb]
  rw [show Flt.ok.e = 0 from rfl, whole_of hf hk]
  simp [outQ, hfl]
theorem parse_fault {rows : List Nd} {s : ByteArray} {v : Int} {f : Flt} {R : List Nd} (h : parseQ rows s = some (v, f, R)) (hf : f ≠ Flt.ok) : v = 0 ∧ R = rows := by
  rcases parseQ_inv h with ⟨_, h1, h2⟩ | ⟨h1, _⟩
  · exact ⟨h1, h2⟩
  · exact absurd h1 hf
theorem parse_table {rows : List Nd} {s : ByteArray} {v : Int} {f : Flt} {R : List Nd} (h : parseQ rows s = some (v, f, R)) (h0 : okT rows) : okT R ∧ rows <+: R := by
  rcases parseQ_inv h with ⟨_, h1, h2⟩ | ⟨h1, ts, st, _, _, hq, _, _, h3⟩
  · subst h2; exact ⟨h0, List.prefix_refl _⟩
  · subst h3
    exact ⟨parse_inv ok_put ts _ _ _ _ _ hq h0, (parse_rows hq).1⟩
theorem again_same {rows : List Nd} {s : ByteArray} {v : Int} {R : List Nd} (h : parseQ rows s = some (v, Flt.ok, R)) : parseQ R s = some (v, Flt.ok, R) := by
  rcases parseQ_inv h with ⟨h0, _⟩ | ⟨_, ts, st, hs, hfb, hq, hk, hfl, hR⟩
  · exact absurd rfl h0
  · subst hR
    obtain ⟨_, hsim⟩ := sim ts ts st.rows 0 0 _ _ _ _ _ hq hfl (List.prefix_refl _) ⟨fun j _ => ⟨rfl, rfl⟩, fun s _ => rfl⟩ (.inl rfl) (Nat.le_refl _) trivial
    obtain ⟨t1, h1, h2⟩ := hsim (st0 st.rows) ⟨rfl, rfl, rfl, rfl⟩
    have hi : t1.i = st.i := h2.2.2.1
    have := parseQ_of (rows := st.rows) hs hfb (h1 0) (by rw [hi]; exact hk) h2.2.1
    rw [h2.1] at this
    exact this

/-! In parentheses. -/
def ctK (x : Int × ByteArray) : Bool := countT ⟨x.1, x.2, 0, 0, 0, 0⟩
theorem ct_kd (t : Tok) : countT t = ctK (kd t) := rfl
theorem firstBig_none : ∀ (ts : List Tok) (n : Nat), n ≤ 512 → (firstBig ts n = none ↔ n + (ts.map kd).countP ctK ≤ 512)
  | [], n, h => by simp [firstBig, h]
  | t :: ts, n, h => by
    have hc := ct_kd t
    rw [firstBig, List.map_cons, List.countP_cons, ← hc]
    cases hct : countT t with
    | false => simpa using firstBig_none ts n h
    | true =>
      simp only [if_true]
      by_cases hb : 512 < n + 1
      · rw [if_pos hb]
        simp
        omega
      · rw [if_neg hb, firstBig_none ts (n + 1) (by omega)]
        omega
theorem tokAt_kd (ts : List Tok) (i : Nat) : kd (tokAt ts i) = (ts.map kd).getD i (0, noText) := by
  simp only [tokAt, List.getD_eq_getElem?_getD, List.getElem?_map]
  cases ts[i]? <;> rfl
theorem alike_of {a b : Tok} (h : kd a = kd b) : alike a b := Prod.mk.inj h
theorem isSg_kd {t : Tok} {x s : ByteArray} (h : kd t = (3, x)) : isSg t s = sameB x s := by
  obtain ⟨h1, h2⟩ := Prod.mk.inj h
  simp [isSg, h1, h2]
theorem again_par {rows : List Nd} {s s2 : ByteArray} {v : Int} {R : List Nd} (h : parseQ rows s = some (v, Flt.ok, R)) (hp : Par s s2) (hlen : s.size < 1000) : parseQ R s2 = some (v, Flt.ok, R) := by
  rcases parseQ_inv h with ⟨h0, _⟩ | ⟨_, ts, st, hs, hfb, hq, hk, hfl, hR⟩
  · exact absurd rfl h0
  · subst hR
    have hq' : parseP false ts (mu ts .formula (st0 rows) + 1) .formula (st0 rows) = .ok v st := hq
    have hsz := (scanQ_props s ts Flt.ok hs).2.2.1
    obtain ⟨o, b, b', e, sh, e', rfl, he, hb, hs2, ho, hbb, hsh, he'⟩ := hp.tokens hs
    have hl : b'.length = b.length := by have := congrArg List.length hbb; simpa using this
    generalize hts : o :: (b' ++ [sh, e']) = ts2 at *
    have hm : ts2.map kd = kd o :: (b.map kd ++ [kd sh, kd e']) := by rw [← hts, ← hbb]; simp
    -- where the first reading ended
    have hend : st.i = b.length := by
      rcases Nat.lt_trichotomy st.i b.length with hlt | heq | hgt
      · exfalso
        have : tokAt (b ++ [e]) st.i = b[st.i] := by simp [tokAt, List.getElem?_append, hlt]
        rw [this] at hk
        exact hb _ (List.getElem_mem hlt) hk
      · exact heq
      · exfalso
        have := parse_kinds _ _ _ _ _ _ hq' b.length (Nat.zero_le _) hgt
        rw [show tokAt (b ++ [e]) b.length = e by simp [tokAt]] at this
        exact this he
    have hat : ∀ j, j < b.length → kd (tokAt ts2 (j + 1)) = kd (tokAt (b ++ [e]) j) := fun j hj => by
      rw [tokAt_kd, tokAt_kd, hm]
      simp [List.getElem?_append, hj]
    have h0 : kd (tokAt ts2 0) = (3, sOpen) := by rw [tokAt_kd, hm, ho]; rfl
    have hsh2 : kd (tokAt ts2 (b.length + 1)) = (3, sShut) := by
      rw [tokAt_kd, hm, hsh]
      simp [List.getElem?_append]
    have hlast : (tokAt ts2 (b.length + 2)).k = 0 := by
      have : kd (tokAt ts2 (b.length + 2)) = kd e' := by
        rw [tokAt_kd, hm]
        simp [List.getElem?_append]
      have := congrArg Prod.fst this
      exact this.trans he'
    have hno : ∀ s ∈ [sIff, sImp, sOr, sAnd], sameB sShut s = false := by decide +kernel
    have hek : ∀ s : ByteArray, isSg (tokAt (b ++ [e]) b.length) s = false := fun s => by
      rw [show tokAt (b ++ [e]) b.length = e by simp [tokAt]]
      simp [isSg, he]
    have hagr : Agr (b ++ [e]) ts2 1 st.i := by
      rw [hend]
      refine ⟨fun j hj => alike_of (hat j hj), fun s hs => ?_⟩
      rw [isSg_kd hsh2, hno s hs, hek]
    obtain ⟨_, hsim⟩ := sim (b ++ [e]) ts2 st.rows 1 1 _ _ _ _ _ hq' hfl (List.prefix_refl _) hagr (.inr (by simp at hsz; omega)) (Nat.le_refl _) trivial
    obtain ⟨t1, h1, h2⟩ := hsim ⟨st.rows, 1, 0, 1, false⟩ ⟨rfl, rfl, rfl, rfl⟩
    have hi1 : t1.i = b.length + 1 := by have := h2.2.2.1; omega
    have hn1 : t1.nest = 1 := by have := h2.2.2.2; have := (parse_rows hq').2.2; simp only [st0] at this; omega
    have hlen2 : ts2.length = b.length + 3 := by rw [← hts]; simp; omega
    have hmu : mu (b ++ [e]) .formula (st0 rows) = 8 * (b.length + 1) + 5 := by simp [mu, rank, st0]
    rw [hmu] at h1
    -- the second one, level by level
    have one : ∀ F, parseP false ts2 F .formula ⟨st.rows, 1, 0, 1, false⟩ = .ok v t1 → parseP false ts2 (F + 1) .single (st0 st.rows) = .ok v { nx t1 with nest := 0 } := by
      intro F hF
      rw [parseP, singleP]
      have a1 : isSg (tokAt ts2 0) sNot = false := by rw [isSg_kd h0]; decide +kernel
      have a2 : isSg (tokAt ts2 0) sOpen = true := by rw [isSg_kd h0]; decide +kernel
      have a3 : ¬ (st0 st.rows).nest = 1024 := by simp [st0]
      simp only [take_f, show (st0 st.rows).i = 0 from rfl, a1, a2, if_true, Bool.false_eq_true, if_false, a3]
      show (parseP false ts2 F .formula ⟨st.rows, 1, 0, 1, false⟩).bind _ = _
      rw [hF]
      show signR false ts2 t1 sShut (fun st => failP ts2 st 41) (fun st => .ok v { st with nest := st.nest - 1 }) = _
      rw [sign_yes (by rw [hi1, isSg_kd hsh2]; decide +kernel)]
      show Rs.ok v { nx t1 with nest := t1.nest - 1 } = _
      rw [hn1]
    have stop : ∀ (s : ByteArray), isSg (tokAt ts2 (nx t1).i) s = false := fun s => by
      have : (nx t1).i = b.length + 2 := by show t1.i + 1 = _; omega
      rw [this]
      simp [isSg, hlast]
    have two : ∀ F, parseP false ts2 F .formula ⟨st.rows, 1, 0, 1, false⟩ = .ok v t1 → parseP false ts2 (F + 1 + 1 + 1 + 1 + 1) .formula (st0 st.rows) = .ok v { nx t1 with nest := 0 } := by
      intro F hF
      have s1 := one F hF
      have row : ∀ lv G, parseP false ts2 G (lvM lv) (st0 st.rows) = .ok v { nx t1 with nest := 0 } → 0 < G → parseP false ts2 (G + 1) (.row lv) (st0 st.rows) = .ok v { nx t1 with nest := 0 } := by
        intro lv G hG hp
        obtain ⟨G, rfl⟩ : ∃ g, G = g + 1 := ⟨G - 1, by omega⟩
        rw [parseP, hG]
        show parseP false ts2 (G + 1) (.rowL lv v) { nx t1 with nest := 0 } = _
        rw [parseP]
        exact sign_no (stop _)
      have s2 := row false (F + 1) s1 (by omega)
      have s3 := row true (F + 1 + 1) s2 (by omega)
      have s4 : parseP false ts2 (F + 1 + 1 + 1 + 1) .implied (st0 st.rows) = .ok v { nx t1 with nest := 0 } := by
        rw [parseP, s3]
        exact sign_no (stop _)
      rw [parseP, s4]
      exact sign_no (stop _)
    have hfin : formQ (envT false ts2) (st0 st.rows) = .ok v { nx t1 with nest := 0 } := by
      show parseP false ts2 (mu ts2 .formula (st0 st.rows) + 1) .formula (st0 st.rows) = _
      have hmu2 : mu ts2 .formula (st0 st.rows) + 1 = 8 * (b.length + 1) + 5 + 1 + 11 + 1 + 1 + 1 + 1 + 1 := by simp [mu, rank, st0, hlen2]; omega
      rw [hmu2]
      exact two _ (h1 11)
    have hcnt : firstBig ts2 0 = none := by
      rw [firstBig_none _ _ (by decide)] at hfb ⊢
      rw [hm]
      have c1 : ctK (kd o) = false := by rw [ho]; decide +kernel
      have c2 : ctK (kd sh) = false := by rw [hsh]; decide +kernel
      have c3 : ctK (kd e') = false := by
        obtain ⟨k, s, n, l, c, o⟩ := e'
        simp only at he'
        subst he'
        simp [ctK, kd, countT, isSg]
      simp only [List.map_append, List.countP_append, List.countP_cons, List.map_cons, List.map_nil, List.countP_nil, c1, c2, c3, Bool.false_eq_true, if_false] at hfb ⊢
      omega
    have := parseQ_of (rows := st.rows) hs2 hcnt hfin (by show (tokAt ts2 (t1.i + 1)).k = 0; rw [hi1]; exact hlast) h2.2.1
    rw [this]
    show some (v, Flt.ok, t1.rows) = _
    rw [h2.1]
end Go.Proofs.YtglnmkdlcbkpeaaGreatDoor
