/-
  Package syntax: the reader, said without a program, and its small steps in memory.
-/
import Derived.Test.YtglnmkdlcbkpeaaGreatDoorGF
import Derived.Test.YtglnmkdlcbkpeaaGreatDoorGU
import Derived.Test.YtglnmkdlcbkpeaaGreatDoorGC
/- syntax: the signs. -/
set_option linter.unusedVariables false
set_option linter.unusedSimpArgs false
namespace Go.Proofs.YtglnmkdlcbkpeaaGreatDoor
open Go.RowKit
def sNot : ByteArray := ⟨#[126]⟩
def sAnd : ByteArray := ⟨#[38]⟩
def sOr : ByteArray := ⟨#[124]⟩
def sImp : ByteArray := ⟨#[45, 62]⟩
def sIff : ByteArray := ⟨#[60, 45, 62]⟩
def sOpen : ByteArray := ⟨#[40]⟩
def sShut : ByteArray := ⟨#[41]⟩
def sTrue : ByteArray := ⟨#[116, 114, 117, 101]⟩
def sFalse : ByteArray := ⟨#[102, 97, 108, 115, 101]⟩
end Go.Proofs.YtglnmkdlcbkpeaaGreatDoor
/- syntax: the reader, said without a program. -/
set_option linter.unusedVariables false
set_option linter.unusedSimpArgs false
namespace Go.Proofs.YtglnmkdlcbkpeaaGreatDoor
open Go.RowKit

def sameB (a b : ByteArray) : Bool := decide (a.data.toList = b.data.toList)
theorem sameB_eq (a b : ByteArray) : sameB a b = decide (a = b) := by
  unfold sameB
  congr 1
  refine propext ⟨fun h => ?_, fun h => by rw [h]⟩
  obtain ⟨⟨x⟩⟩ := a
  obtain ⟨⟨y⟩⟩ := b
  have : x = y := h
  rw [this]
def zeroTok : Tok := ⟨0, noText, 0, 0, 0, 0⟩
def tokAt (ts : List Tok) (i : Nat) : Tok := ts.getD i zeroTok
def isSg (t : Tok) (s : ByteArray) : Bool := decide (t.k = 3) && sameB t.s s
def countT (t : Tok) : Bool := isSg t sNot || isSg t sAnd || isSg t sOr || isSg t sImp || isSg t sIff || decide (t.k = 1)
structure St where
  rows : List Nd
  i : Nat
  names : Nat
  nest : Nat
  full : Bool
inductive Rs where
  | out
  | bad (f : Flt) (rows : List Nd)
  | ok (v : Int) (st : St)
def Rs.bind (r : Rs) (k : Int → St → Rs) : Rs := match r with
  | .out => .out
  | .bad f rows => .bad f rows
  | .ok v st => k v st
def failP (ts : List Tok) (st : St) (e : Int) : Rs := .bad ⟨e, (tokAt ts st.i).l, (tokAt ts st.i).c, (tokAt ts st.i).o⟩ st.rows
def takeP (c : Bool) (ts : List Tok) (st : St) : Rs :=
  if countT (tokAt ts st.i) && c then (if st.names = 512 then failP ts st 40 else .ok 0 { st with names := st.names + 1, i := st.i + 1 })
  else .ok 0 { st with i := st.i + 1 }
/-- A sign is taken, if it is next. -/
def signR (c : Bool) (ts : List Tok) (st : St) (s : ByteArray) (no yes : St → Rs) : Rs :=
  if isSg (tokAt ts st.i) s then (takeP c ts st).bind fun _ st => yes st else no st
def nodeP (st : St) (k : Int) (name : ByteArray) (a b : Int) : Int × St :=
  if st.full then (0, st) else
    ((putR st.rows ⟨k, name, a, b⟩).1, { st with rows := (putR st.rows ⟨k, name, a, b⟩).2.2, full := decide ((putR st.rows ⟨k, name, a, b⟩).2.1 = 30) })
def nodeK (st : St) (k : Int) (a b : Int) (f : Int → St → Rs) : Rs := f (nodeP st k noText a b).1 (nodeP st k noText a b).2
inductive Md where
  | formula
  | implied
  | row (lv : Bool)
  | rowL (lv : Bool) (a : Int)
  | single
def lvS (lv : Bool) : ByteArray := if lv then sOr else sAnd
def lvK (lv : Bool) : Int := if lv then 4 else 3
def lvM (lv : Bool) : Md := if lv then .row false else .single
def singleP (c : Bool) (ts : List Tok) (P : Md → St → Rs) (st : St) : Rs :=
  let t := tokAt ts st.i
  if isSg t sNot then (takeP c ts st).bind fun _ st => (P .single st).bind fun a st => nodeK st 2 0 0 fun b st => nodeK st 5 a b .ok
  else if isSg t sOpen then
    (if st.nest = 1024 then failP ts st 41
    else (takeP c ts { st with nest := st.nest + 1 }).bind fun _ st => (P .formula st).bind fun a st => signR c ts st sShut (fun st => failP ts st 41) (fun st => .ok a { st with nest := st.nest - 1 }))
  else if decide (t.k = 1) && sameB t.s sTrue then (takeP c ts st).bind fun _ st => nodeK st 2 0 0 fun b st => nodeK st 5 b b .ok
  else if decide (t.k = 1) && sameB t.s sFalse then (takeP c ts st).bind fun _ st => nodeK st 2 0 0 .ok
  else if decide (t.k = 1) && wordB t.s then (takeP c ts st).bind fun _ st => .ok (nodeP st 1 t.s 0 0).1 (nodeP st 1 t.s 0 0).2
  else failP ts st 41
def parseP (c : Bool) (ts : List Tok) : Nat → Md → St → Rs
  | 0, _, _ => .out
  | f + 1, .formula, st => (parseP c ts f .implied st).bind fun a st => signR c ts st sIff (.ok a) fun st => (parseP c ts f .formula st).bind fun b st =>
      nodeK st 5 a b fun x st => nodeK st 5 b a fun y st => nodeK st 3 x y .ok
  | f + 1, .implied, st => (parseP c ts f (.row true) st).bind fun a st => signR c ts st sImp (.ok a) fun st => (parseP c ts f .implied st).bind fun b st => nodeK st 5 a b .ok
  | f + 1, .row lv, st => (parseP c ts f (lvM lv) st).bind fun a st => parseP c ts f (.rowL lv a) st
  | f + 1, .rowL lv a, st => signR c ts st (lvS lv) (.ok a) fun st => (parseP c ts f (lvM lv) st).bind fun b st => nodeK st (lvK lv) a b fun x st => parseP c ts f (.rowL lv x) st
  | f + 1, .single, st => singleP c ts (parseP c ts f) st
end Go.Proofs.YtglnmkdlcbkpeaaGreatDoor
/- syntax: plain laws of the reader: it goes on, rows are put behind, fuel suffices. -/
set_option linter.unusedVariables false
set_option linter.unusedSimpArgs false
namespace Go.Proofs.YtglnmkdlcbkpeaaGreatDoor
open Go.RowKit

def Ext (st : St) : Rs → Prop
  | .out => True
  | .bad _ rows => st.rows <+: rows
  | .ok _ st' => st.rows <+: st'.rows ∧ st.i ≤ st'.i
theorem Ext.bind {st : St} {r : Rs} {k : Int → St → Rs} (h : Ext st r) (hk : ∀ v st', r = .ok v st' → Ext st' (k v st')) : Ext st (r.bind k) := by
  cases r with
  | out => trivial
  | bad f rows => exact h
  | ok v st' =>
    have h2 := hk v st' rfl
    show Ext st (k v st')
    generalize k v st' = q at h2
    cases q with
    | out => trivial
    | bad f rows => exact List.IsPrefix.trans h.1 h2
    | ok u st2 => exact ⟨List.IsPrefix.trans h.1 h2.1, Nat.le_trans h.2 h2.2⟩
theorem ext_mono {st st' : St} {r : Rs} (h1 : st.rows <+: st'.rows) (h2 : st.i ≤ st'.i) (h : Ext st' r) : Ext st r := by
  cases r with
  | out => trivial
  | bad f rows => exact h1.trans h
  | ok v st2 => exact ⟨h1.trans h.1, Nat.le_trans h2 h.2⟩
theorem ext_take (c : Bool) (ts : List Tok) (st : St) : Ext st (takeP c ts st) := by
  unfold takeP
  split
  · split
    · exact List.prefix_refl _
    · exact ⟨List.prefix_refl _, Nat.le_succ _⟩
  · exact ⟨List.prefix_refl _, Nat.le_succ _⟩
theorem ext_sign (c : Bool) (ts : List Tok) (st : St) (s : ByteArray) (no yes : St → Rs) (h1 : Ext st (no st)) (h2 : ∀ st', Ext st' (yes st')) : Ext st (signR c ts st s no yes) := by
  unfold signR
  split
  · exact (ext_take c ts st).bind (fun _ st' _ => h2 st')
  · exact h1
theorem putR_prefix (rows : List Nd) (d : Nd) : rows <+: (putR rows d).2.2 := by
  by_cases hf : fitsN rows.length d = 0
  · cases hfi : findN rows d with
    | some i => rw [putR_found hf hfi]; exact List.prefix_refl _
    | none =>
      by_cases hn : 1024 ≤ rows.length
      · rw [putR_full hf hfi hn]; exact List.prefix_refl _
      · rw [putR_new hf hfi hn]; exact List.prefix_append _ _
  · rw [putR_unfit hf]; exact List.prefix_refl _
theorem nodeP_ext (st : St) (k : Int) (s : ByteArray) (a b : Int) : st.rows <+: (nodeP st k s a b).2.rows ∧ (nodeP st k s a b).2.i = st.i := by
  unfold nodeP
  split
  · exact ⟨List.prefix_refl _, rfl⟩
  · exact ⟨putR_prefix _ _, rfl⟩
theorem ext_node (st : St) (k a b : Int) (f : Int → St → Rs) (h : ∀ v st', Ext st' (f v st')) : Ext st (nodeK st k a b f) := by
  obtain ⟨h1, h2⟩ := nodeP_ext st k noText a b
  exact ext_mono h1 (by omega) (h _ _)
theorem ext_ok (v : Int) (st : St) : Ext st (.ok v st) := ⟨List.prefix_refl _, Nat.le_refl _⟩
theorem ext_fail (ts : List Tok) (st : St) (x : Int) : Ext st (failP ts st x) := List.prefix_refl _
theorem ext_single (c : Bool) (ts : List Tok) (P : Md → St → Rs) (hP : ∀ md st, Ext st (P md st)) (st : St) : Ext st (singleP c ts P st) := by
  unfold singleP
  simp only
  split
  · exact (ext_take _ _ _).bind fun _ st' _ => (hP _ _).bind fun _ st' _ => ext_node _ _ _ _ _ fun _ _ => ext_node _ _ _ _ _ ext_ok
  · split
    · split
      · exact ext_fail _ _ _
      · refine ext_mono (st' := { st with nest := st.nest + 1 }) (List.prefix_refl _) (Nat.le_refl _) ((ext_take _ _ _).bind fun _ st' _ => (hP _ _).bind fun a st' _ => ext_sign _ _ _ _ _ _ (ext_fail _ _ _) fun st' => ?_)
        exact ⟨List.prefix_refl _, Nat.le_refl _⟩
    · split
      · exact (ext_take _ _ _).bind fun _ st' _ => ext_node _ _ _ _ _ fun _ _ => ext_node _ _ _ _ _ ext_ok
      · split
        · exact (ext_take _ _ _).bind fun _ st' _ => ext_node _ _ _ _ _ ext_ok
        · split
          · refine (ext_take _ _ _).bind fun _ st' _ => ?_
            obtain ⟨h1, h2⟩ := nodeP_ext st' 1 (tokAt ts st.i).s 0 0
            exact ⟨h1, by omega⟩
          · exact ext_fail _ _ _
theorem parse_ext (c : Bool) (ts : List Tok) : ∀ (f : Nat) (md : Md) (st : St), Ext st (parseP c ts f md st) := by
  intro f
  induction f with
  | zero => intro md st; exact trivial
  | succ f ih =>
    intro md st
    cases md with
    | formula =>
      rw [parseP]
      exact (ih _ _).bind fun a st' _ => ext_sign _ _ _ _ _ _ (ext_ok _ _) fun st' => (ih _ _).bind fun b st' _ => ext_node _ _ _ _ _ fun _ _ => ext_node _ _ _ _ _ fun _ _ => ext_node _ _ _ _ _ ext_ok
    | implied =>
      rw [parseP]
      exact (ih _ _).bind fun a st' _ => ext_sign _ _ _ _ _ _ (ext_ok _ _) fun st' => (ih _ _).bind fun b st' _ => ext_node _ _ _ _ _ ext_ok
    | row lv =>
      rw [parseP]
      exact (ih _ _).bind fun a st' _ => ih _ _
    | rowL lv a =>
      rw [parseP]
      exact ext_sign _ _ _ _ _ _ (ext_ok _ _) fun st' => (ih _ _).bind fun b st' _ => ext_node _ _ _ _ _ fun _ _ => ih _ _
    | single =>
      rw [parseP]
      exact ext_single _ _ _ ih _

/-! What is nested stays. -/
def Nst (n : Nat) : Rs → Prop
  | .ok _ st' => st'.nest = n
  | _ => True
theorem Nst.bind {n m : Nat} {r : Rs} {k : Int → St → Rs} (h : Nst n r) (hk : ∀ v st', r = .ok v st' → st'.nest = n → Nst m (k v st')) : Nst m (r.bind k) := by
  cases r with
  | out => trivial
  | bad f rows => trivial
  | ok v st' => exact hk v st' rfl h
theorem nst_take (c : Bool) (ts : List Tok) (st : St) : Nst st.nest (takeP c ts st) := by
  unfold takeP failP
  split
  · split
    · trivial
    · exact rfl
  · exact rfl
theorem nst_sign {n : Nat} (c : Bool) (ts : List Tok) (st : St) (s : ByteArray) (no yes : St → Rs) (h1 : Nst n (no st)) (h2 : ∀ st', st'.nest = st.nest → Nst n (yes st')) : Nst n (signR c ts st s no yes) := by
  unfold signR
  split
  · exact (nst_take c ts st).bind (fun _ st' _ h => h2 st' h)
  · exact h1
theorem nodeP_nest (st : St) (k : Int) (s : ByteArray) (a b : Int) : (nodeP st k s a b).2.nest = st.nest := by
  unfold nodeP
  split <;> rfl
theorem nst_node {n : Nat} (st : St) (k a b : Int) (f : Int → St → Rs) (h : ∀ v st', st'.nest = st.nest → Nst n (f v st')) : Nst n (nodeK st k a b f) := h _ _ (nodeP_nest st k noText a b)
theorem nst_single (c : Bool) (ts : List Tok) (P : Md → St → Rs) (hP : ∀ md st, Nst st.nest (P md st)) (st : St) : Nst st.nest (singleP c ts P st) := by
  unfold singleP
  simp only
  split
  · exact (nst_take _ _ _).bind fun _ st1 _ h1 => (hP _ _).bind fun _ st2 _ h2 => nst_node _ _ _ _ _ fun _ st3 h3 => nst_node _ _ _ _ _ fun _ st4 h4 => by show st4.nest = _; omega
  · split
    · split
      · trivial
      · exact (nst_take _ _ _).bind fun _ st1 _ h1 => (hP _ _).bind fun _ st2 _ h2 => nst_sign _ _ _ _ _ _ trivial fun st3 h3 => by show st3.nest - 1 = _; simp only at h1; omega
    · split
      · exact (nst_take _ _ _).bind fun _ st1 _ h1 => nst_node _ _ _ _ _ fun _ st2 h2 => nst_node _ _ _ _ _ fun _ st3 h3 => by show st3.nest = _; omega
      · split
        · exact (nst_take _ _ _).bind fun _ st1 _ h1 => nst_node _ _ _ _ _ fun _ st2 h2 => by show st2.nest = _; omega
        · split
          · exact (nst_take _ _ _).bind fun _ st1 _ h1 => by show (nodeP _ _ _ _ _).2.nest = _; rw [nodeP_nest]; exact h1
          · trivial
theorem parse_nest (c : Bool) (ts : List Tok) : ∀ (f : Nat) (md : Md) (st : St), Nst st.nest (parseP c ts f md st) := by
  intro f
  induction f with
  | zero => intro md st; exact trivial
  | succ f ih =>
    intro md st
    cases md with
    | formula =>
      rw [parseP]
      exact (ih _ _).bind fun a st1 _ h1 => nst_sign _ _ _ _ _ _ h1 fun st2 h2 => (ih _ _).bind fun b st3 _ h3 => nst_node _ _ _ _ _ fun _ st4 h4 => nst_node _ _ _ _ _ fun _ st5 h5 => nst_node _ _ _ _ _ fun _ st6 h6 => by show st6.nest = _; omega
    | implied =>
      rw [parseP]
      exact (ih _ _).bind fun a st1 _ h1 => nst_sign _ _ _ _ _ _ h1 fun st2 h2 => (ih _ _).bind fun b st3 _ h3 => nst_node _ _ _ _ _ fun _ st4 h4 => by show st4.nest = _; omega
    | row lv =>
      rw [parseP]
      exact (ih _ _).bind fun a st1 _ h1 => by have := ih (.rowL lv a) st1; rw [h1] at this; exact this
    | rowL lv a =>
      rw [parseP]
      exact nst_sign _ _ _ _ _ _ rfl fun st2 h2 => (ih _ _).bind fun b st3 _ h3 => nst_node _ _ _ _ _ fun x st4 h4 => by have := ih (.rowL lv x) st4; rw [h4, h3, h2] at this; exact this
    | single =>
      rw [parseP]
      exact nst_single _ _ _ ih _
theorem nst_ok {n : Nat} {r : Rs} {v : Int} {st : St} (h : Nst n r) (e : r = .ok v st) : st.nest = n := by subst e; exact h

/-! Fuel. -/
def rank : Md → Nat
  | .formula => 5
  | .implied => 4
  | .row true => 3
  | .row false => 2
  | .rowL _ _ => 0
  | .single => 1
def mu (ts : List Tok) (md : Md) (st : St) : Nat := 8 * (ts.length - st.i) + rank md
theorem bind_out {r : Rs} {k : Int → St → Rs} (h1 : r ≠ .out) (h2 : ∀ v st', r = .ok v st' → k v st' ≠ .out) : r.bind k ≠ .out := by
  cases r with
  | out => exact absurd rfl h1
  | bad f rows => intro h; cases h
  | ok v st' => exact h2 v st' rfl
theorem take_out (c : Bool) (ts : List Tok) (st : St) : takeP c ts st ≠ .out := by
  unfold takeP failP
  split
  · split
    · intro h; cases h
    · intro h; cases h
  · intro h; cases h
theorem take_i {c : Bool} {ts : List Tok} {st st' : St} {v : Int} (h : takeP c ts st = .ok v st') : st'.i = st.i + 1 := by
  unfold takeP failP at h
  split at h
  · split at h
    · cases h
    · cases h; rfl
  · cases h; rfl
theorem ok_out (v : Int) (st : St) : Rs.ok v st ≠ .out := fun h => by cases h
theorem fail_out (ts : List Tok) (st : St) (x : Int) : failP ts st x ≠ .out := fun h => by cases h
theorem sign_out {c : Bool} {ts : List Tok} {st : St} {s : ByteArray} {no yes : St → Rs} (h1 : no st ≠ .out) (h2 : st.i < ts.length → ∀ st', st'.i = st.i + 1 → yes st' ≠ .out) : signR c ts st s no yes ≠ .out := by
  unfold signR
  split
  · rename_i h
    refine bind_out (take_out _ _ _) fun v st' h' => h2 ?_ st' (take_i h')
    rcases Nat.lt_or_ge st.i ts.length with h1 | h1
    · exact h1
    · have : tokAt ts st.i = zeroTok := by simp [tokAt, h1]
      rw [this] at h
      simp [isSg, zeroTok] at h
  · exact h1
theorem isSg_lt' {ts : List Tok} {i : Nat} {s : ByteArray} (h : isSg (tokAt ts i) s = true) : i < ts.length := by
  rcases Nat.lt_or_ge i ts.length with h1 | h1
  · exact h1
  · have : tokAt ts i = zeroTok := by simp [tokAt, h1]
    rw [this] at h
    simp [isSg, zeroTok] at h
theorem ext_i {st : St} {r : Rs} (h : Ext st r) {v : Int} {st' : St} (e : r = .ok v st') : st.i ≤ st'.i := by subst e; exact h.2
theorem parse_fuel (c : Bool) (ts : List Tok) : ∀ (f : Nat) (md : Md) (st : St), mu ts md st < f → parseP c ts f md st ≠ .out := by
  intro f
  induction f with
  | zero => intro md st h; omega
  | succ f ih =>
    intro md st h
    cases md with
    | formula =>
      rw [parseP]
      simp only [mu, rank] at h ih
      refine bind_out (ih _ _ (by simp only; omega)) fun a st1 h1 => ?_
      have := ext_i (parse_ext _ _ _ _ _) h1
      refine sign_out (ok_out _ _) fun hl st2 h2 => bind_out (ih _ _ (by simp only; omega)) fun b st3 h3 => ?_
      simp only [nodeK]
      exact ok_out _ _
    | implied =>
      rw [parseP]
      simp only [mu, rank] at h ih
      refine bind_out (ih _ _ (by simp only; omega)) fun a st1 h1 => ?_
      have := ext_i (parse_ext _ _ _ _ _) h1
      refine sign_out (ok_out _ _) fun hl st2 h2 => bind_out (ih _ _ (by simp only; omega)) fun b st3 h3 => ?_
      simp only [nodeK]
      exact ok_out _ _
    | row lv =>
      rw [parseP]
      have hr : rank (lvM lv) < rank (.row lv) := by cases lv <;> decide
      simp only [mu] at h ih
      refine bind_out (ih _ _ (by omega)) fun a st1 h1 => ?_
      have := ext_i (parse_ext _ _ _ _ _) h1
      exact ih _ _ (by show _ + 0 < _; omega)
    | rowL lv a =>
      rw [parseP]
      have hr : rank (lvM lv) ≤ 2 := by cases lv <;> decide
      simp only [mu] at h ih
      have h0 : rank (.rowL lv a) = 0 := rfl
      refine sign_out (ok_out _ _) fun hl st1 h1 => bind_out (ih _ _ (by omega)) fun b st2 h2 => ?_
      have := ext_i (parse_ext _ _ _ _ _) h2
      simp only [nodeK]
      refine ih _ _ ?_
      rw [(nodeP_ext st2 (lvK lv) noText a b).2]
      show _ + 0 < _
      omega
    | single =>
      rw [parseP]
      simp only [mu, rank] at h ih
      unfold singleP
      simp only
      split
      · rename_i hs
        have hl := isSg_lt' hs
        refine bind_out (take_out _ _ _) fun v st1 h1 => ?_
        have := take_i h1
        refine bind_out (ih _ _ (by simp only; omega)) fun v st2 h2 => ?_
        simp only [nodeK]
        exact ok_out _ _
      · split
        · rename_i hs
          have hl := isSg_lt' hs
          split
          · exact fail_out _ _ _
          · refine bind_out (take_out _ _ _) fun v st1 h1 => ?_
            have := take_i h1
            simp only at this
            refine bind_out (ih _ _ (by simp only; omega)) fun v st2 h2 => ?_
            exact sign_out (fail_out _ _ _) fun hl st3 h3 => ok_out _ _
        · split
          · refine bind_out (take_out _ _ _) fun v st1 h1 => ?_
            simp only [nodeK]
            exact ok_out _ _
          · split
            · refine bind_out (take_out _ _ _) fun v st1 h1 => ?_
              simp only [nodeK]
              exact ok_out _ _
            · split
              · exact bind_out (take_out _ _ _) fun v st1 h1 => ok_out _ _
              · exact fail_out _ _ _
end Go.Proofs.YtglnmkdlcbkpeaaGreatDoor
/- syntax: the reader in memory; counted, now, fail, take, sign. -/
set_option linter.unusedVariables false
set_option linter.unusedSimpArgs false
namespace Go.Proofs.YtglnmkdlcbkpeaaGreatDoor
open Go.RowKit

/-- What stays while a reader reads: its block, its table's block, its tokens, the bound of what was there. -/
structure Env where
  rb : Nat
  p : Nat
  la : Option Addr
  lc : Nat
  ts : List Tok
  c : Bool
  N : Nat
  F : Nat → Prop
def Env.G (E : Env) (k : Nat) : Prop := E.F k ∨ E.N ≤ k
def Env.S (E : Env) (k : Nat) : Prop := k = E.rb ∨ E.F k ∨ E.N ≤ k
def Tok.ok (t : Tok) : Prop := t.s.size ≤ 140737488355328

structure RD (w : World) (E : Env) (st : St) : Prop where
  rd : w.heap[E.rb]? = some (.cells #[.pointer (some ⟨E.p, 0, none⟩), .slice E.la E.ts.length E.lc, .int .i64 st.i, .int .i64 st.names, .int .i64 st.nest, .bool E.c, .bool st.full] 85 (0, 0))
  tab : Tab w E.p st.rows E.G
  toks : 0 < E.ts.length → ∃ b off, E.la = some ⟨b, off, none⟩ ∧ b < E.N ∧ ¬ E.F b ∧ b ≠ E.rb ∧ ∀ j u, (toksCells E.ts)[j]? = some u → w.cell? ⟨b, off + j, none⟩ = some u
  size : E.N ≤ w.heap.size
  rbF : ¬ E.F E.rb
  rbN : E.rb < E.N
  len : E.ts.length ≤ 1099511627776
  tok : ∀ t ∈ E.ts, t.ok
  rows : st.rows.length ≤ 1024
  nodup : st.rows.Nodup
  i : st.i ≤ E.ts.length
  names : st.names ≤ 512
  nest : st.nest ≤ 1024

theorem RD.below {w w' : World} {E : Env} {st : St} (h : RD w E st) (hb : Below w.heap.size w w') : RD w' E st :=
  ⟨blk_below' h.rd hb, h.tab.below hb, fun hn => by
    obtain ⟨b, off, e, h1, h2, h3, h4⟩ := h.toks hn
    exact ⟨b, off, e, h1, h2, h3, fun j u hu => (hb.cell (p := ⟨b, off + j, none⟩) (Nat.lt_of_lt_of_le h1 h.size)).trans (h4 j u hu)⟩, Nat.le_trans h.size hb.size, h.rbF, h.rbN, h.len, h.tok, h.rows, h.nodup, h.i, h.names, h.nest⟩
/-- The reader's own block has been written, or its table has grown. -/
theorem RD.fr {w w' : World} {E : Env} {st st' : St} (h : RD w E st) (hf : Fr E.S w w') (h1 : w'.heap[E.rb]? = some (.cells #[.pointer (some ⟨E.p, 0, none⟩), .slice E.la E.ts.length E.lc, .int .i64 st'.i, .int .i64 st'.names, .int .i64 st'.nest, .bool E.c, .bool st'.full] 85 (0, 0)))
    (h2 : Tab w' E.p st'.rows E.G) (h3 : st'.rows.length ≤ 1024) (h4 : st'.rows.Nodup) (h5 : st'.i ≤ E.ts.length) (h6 : st'.names ≤ 512) (h7 : st'.nest ≤ 1024) : RD w' E st' :=
  ⟨h1, h2, fun hn => by
    obtain ⟨b, off, e, k1, k2, k3, k4⟩ := h.toks hn
    refine ⟨b, off, e, k1, k2, k3, fun j u hu => (World.cell?_of_block (hf.block b (Nat.lt_of_lt_of_le k1 h.size) ?_)).trans (k4 j u hu)⟩
    rintro (e | e | e)
    · exact k3 e
    · exact k2 e
    · omega, Nat.le_trans h.size hf.size, h.rbF, h.rbN, h.len, h.tok, h3, h4, h5, h6, h7⟩
theorem RD.tabS {w w' : World} {E : Env} {st : St} (h : RD w E st) (hf : Fr (fun k => k = E.rb) w w') : Tab w' E.p st.rows E.G :=
  h.tab.fr hf (fun k hk _ e => by subst e; rcases hk with hk | hk; exact h.rbF hk; exact absurd h.rbN (by omega))

theorem toks_length (ts : List Tok) : (toksCells ts).length = ts.length * 6 := by
  induction ts with
  | nil => rfl
  | cons x xs ih => simp only [toksCells, List.flatMap_cons, List.length_append] at *; rw [ih]; simp [Tok.cells]; omega
theorem toks_get (ts : List Tok) (i : Nat) (h : i < ts.length) (j : Nat) (hj : j < 6) : (toksCells ts)[i * 6 + j]? = ts[i].cells[j]? := by
  induction ts generalizing i with
  | nil => simp at h
  | cons x xs ih =>
    have hx : toksCells (x :: xs) = x.cells ++ toksCells xs := by simp [toksCells]
    have hl : x.cells.length = 6 := rfl
    rw [hx]
    cases i with
    | zero => rw [List.getElem?_append_left (by omega)]; simp
    | succ i =>
      rw [List.getElem?_append_right (by omega), hl, show (i + 1) * 6 + j - 6 = i * 6 + j from by omega]
      exact ih i (by simpa using h)

theorem RD.cells {w : World} {E : Env} {st : St} (h : RD w E st) :
    w.cell? ⟨E.rb, 0, none⟩ = some (.pointer (some ⟨E.p, 0, none⟩)) ∧ w.cell? ⟨E.rb, 1, none⟩ = some (.slice E.la E.ts.length E.lc) ∧ w.cell? ⟨E.rb, 2, none⟩ = some (.int .i64 st.i) ∧ w.cell? ⟨E.rb, 3, none⟩ = some (.int .i64 st.names) ∧ w.cell? ⟨E.rb, 4, none⟩ = some (.int .i64 st.nest) ∧
    w.cell? ⟨E.rb, 5, none⟩ = some (.bool E.c) ∧ w.cell? ⟨E.rb, 6, none⟩ = some (.bool st.full) :=
  ⟨(blk_cell h.rd 0).trans rfl, (blk_cell h.rd 1).trans rfl, (blk_cell h.rd 2).trans rfl, (blk_cell h.rd 3).trans rfl, (blk_cell h.rd 4).trans rfl, (blk_cell h.rd 5).trans rfl, (blk_cell h.rd 6).trans rfl⟩

theorem set6 {w : World} {B : Nat} {t : TypeId} {a0 a1 a2 a3 a4 a5 : Value} (b0 b1 b2 b3 b4 b5 : Value) (h : w.heap[B]? = some (.cells #[a0, a1, a2, a3, a4, a5] t (0, 0))) :
    ((((((w.setCell ⟨B, 0, none⟩ b0).setCell ⟨B, 1, none⟩ b1).setCell ⟨B, 2, none⟩ b2).setCell ⟨B, 3, none⟩ b3).setCell ⟨B, 4, none⟩ b4).setCell ⟨B, 5, none⟩ b5).heap[B]? = some (.cells #[b0, b1, b2, b3, b4, b5] t (0, 0)) :=
  blk_set (blk_set (blk_set (blk_set (blk_set (blk_set h 0 b0) 1 b1) 2 b2) 3 b3) 4 b4) 5 b5
theorem below6 {w w1 : World} {B : Nat} (b0 b1 b2 b3 b4 b5 : Value) (h : Below B w w1) :
    Below B w ((((((w1.setCell ⟨B, 0, none⟩ b0).setCell ⟨B, 1, none⟩ b1).setCell ⟨B, 2, none⟩ b2).setCell ⟨B, 3, none⟩ b3).setCell ⟨B, 4, none⟩ b4).setCell ⟨B, 5, none⟩ b5) :=
  (((((h.setCell (p := ⟨B, 0, none⟩) (Nat.le_refl _) _).setCell (p := ⟨B, 1, none⟩) (Nat.le_refl _) _).setCell (p := ⟨B, 2, none⟩) (Nat.le_refl _) _).setCell (p := ⟨B, 3, none⟩) (Nat.le_refl _) _).setCell (p := ⟨B, 4, none⟩) (Nat.le_refl _) _).setCell (p := ⟨B, 5, none⟩) (Nat.le_refl _) _
theorem tok_cells {w : World} {g : Nat} {t : Tok} (h : w.heap[g]? = some (.cells #[.int .i64 t.k, .string t.s, .int .i64 t.n, .int .i64 t.l, .int .i64 t.c, .int .i64 t.o] 73 (0, 0))) :
    w.cell? ⟨g, 0, none⟩ = some (.int .i64 t.k) ∧ w.cell? ⟨g, 1, none⟩ = some (.string t.s) ∧ w.cell? ⟨g, 2, none⟩ = some (.int .i64 t.n) ∧ w.cell? ⟨g, 3, none⟩ = some (.int .i64 t.l) ∧ w.cell? ⟨g, 4, none⟩ = some (.int .i64 t.c) ∧ w.cell? ⟨g, 5, none⟩ = some (.int .i64 t.o) :=
  ⟨(blk_cell h 0).trans rfl, (blk_cell h 1).trans rfl, (blk_cell h 2).trans rfl, (blk_cell h 3).trans rfl, (blk_cell h 4).trans rfl, (blk_cell h 5).trans rfl⟩

set_option maxRecDepth 100000 in
set_option maxHeartbeats 1000000 in
theorem now_any (w : World) (E : Env) (st : St) (h : RD w E st) :
    Calls Tryz.prog 34 #[.pointer (some ⟨E.rb, 0, none⟩)] w fun e w' => e = .returned (tokAt E.ts st.i).val ∧ Below w.heap.size w w' := by
  obtain ⟨d0, d1, d2, d3, d4, d5, d6⟩ := h.cells
  have hlt : E.rb < w.heap.size := Nat.lt_of_lt_of_le h.rbN h.size
  have hln := h.len
  by_cases hi : st.i < E.ts.length
  · obtain ⟨b, off, hla, hb, _, _, hc⟩ := h.toks (by omega)
    have hbl : b < w.heap.size := Nat.lt_of_lt_of_le hb h.size
    have e0 := hc (st.i * 6) _ ((toks_get E.ts st.i hi 0 (by omega)).trans rfl)
    have e1 := hc (st.i * 6 + 1) _ ((toks_get E.ts st.i hi 1 (by omega)).trans rfl)
    have e2 := hc (st.i * 6 + 2) _ ((toks_get E.ts st.i hi 2 (by omega)).trans rfl)
    have e3 := hc (st.i * 6 + 3) _ ((toks_get E.ts st.i hi 3 (by omega)).trans rfl)
    have e4 := hc (st.i * 6 + 4) _ ((toks_get E.ts st.i hi 4 (by omega)).trans rfl)
    have e5 := hc (st.i * 6 + 5) _ ((toks_get E.ts st.i hi 5 (by omega)).trans rfl)
    rw [← Nat.add_assoc] at e1 e2 e3 e4 e5
    have ht : tokAt E.ts st.i = E.ts[st.i] := by simp [tokAt, hi]
    rw [ht]
    clear ht hc d3 d4 d5 d6
    generalize E.ts[st.i] = t at *
    generalize E.ts.length = n at *
    rw [hla] at d1
    have hi2 : (st.i : Int) < n := by omega
    clear h hla
    go_enter Tryz.func34, Tryz.ntmps34
    go_wp2_with fail
    go_quiet (fail)
    go_wp2_with fail
    go_region
    all_goals
      go_wp2_with fail
      obtain ⟨f0, f1, f2, f3, f4, f5⟩ := tok_cells (t := t) (set6 (.int .i64 t.k) (.string t.s) (.int .i64 t.n) (.int .i64 t.l) (.int .i64 t.c) (.int .i64 t.o) (show ((w.alloc (.cells #[.int .i64 0, .string ⟨#[]⟩, .int .i64 0, .int .i64 0, .int .i64 0, .int .i64 0] 73)).drewN (nq + 1)).heap[w.heap.size]? = _ from blk_new w _))
      exact bodyPost_ret (v := t.val) (by simp [results, Tryz.results34, go_sem, Tok.val, f0, f1, f2, f3, f4, f5]) rfl ⟨rfl, below6 _ _ _ _ _ _ (below_drewN ((Below.refl _ _).alloc (Nat.le_refl _) _) _)⟩
  · have ht : tokAt E.ts st.i = zeroTok := by simp [tokAt, hi]
    rw [ht]
    have hi2 : ¬ (st.i : Int) < E.ts.length := by omega
    clear h ht d3 d4 d5 d6
    go_enter Tryz.func34, Tryz.ntmps34
    go_wp2_with fail
    go_quiet (fail)
    go_wp2_with fail
    obtain ⟨f0, f1, f2, f3, f4, f5⟩ := tok_cells (t := zeroTok) (set6 (.int .i64 0) (.string ⟨#[]⟩) (.int .i64 0) (.int .i64 0) (.int .i64 0) (.int .i64 0) (show ((w.alloc (.cells #[.int .i64 0, .string ⟨#[]⟩, .int .i64 0, .int .i64 0, .int .i64 0, .int .i64 0] 73)).drewN nq).heap[w.heap.size]? = _ from blk_new w _))
    exact bodyPost_ret (v := zeroTok.val) (by simp [results, Tryz.results34, go_sem, Tok.val, zeroTok, f0, f1, f2, f3, f4, f5]) rfl ⟨rfl, below6 _ _ _ _ _ _ (below_drewN ((Below.refl _ _).alloc (Nat.le_refl _) _) _)⟩
end Go.Proofs.YtglnmkdlcbkpeaaGreatDoor
/- syntax: counted, fail, take, sign. -/
set_option linter.unusedVariables false
set_option linter.unusedSimpArgs false
namespace Go.Proofs.YtglnmkdlcbkpeaaGreatDoor
open Go.RowKit

theorem lit_eq (s x : ByteArray) (l : List UInt8) (h : x.toList = l) : (s.toList == l) = decide (s = x) := by
  rw [← h, Bool.eq_iff_iff]
  simp [toList_eq]
theorem lNot : sNot.toList = [126] := by decide +kernel
theorem lAnd : sAnd.toList = [38] := by decide +kernel
theorem lOr : sOr.toList = [124] := by decide +kernel
theorem lImp : sImp.toList = [45, 62] := by decide +kernel
theorem lIff : sIff.toList = [60, 45, 62] := by decide +kernel
theorem lOpen : sOpen.toList = [40] := by decide +kernel
theorem lShut : sShut.toList = [41] := by decide +kernel
theorem lTrue : sTrue.toList = [116, 114, 117, 101] := by decide +kernel
theorem lFalse : sFalse.toList = [102, 97, 108, 115, 101] := by decide +kernel
theorem lit_t {s x : ByteArray} {l : List UInt8} (h : x.toList = l) (e : s = x) : (s.toList == l) = true := by rw [lit_eq s x l h]; simp [e]
theorem lit_f {s x : ByteArray} {l : List UInt8} (h : x.toList = l) (e : ¬ s = x) : (s.toList == l) = false := by rw [lit_eq s x l h]; simp [e]

set_option maxRecDepth 100000 in
set_option maxHeartbeats 1000000 in
theorem counted_any (w : World) (t : Tok) :
    Calls Tryz.prog 30 #[t.val] w fun e w' => e = .returned (.bool (countT t)) ∧ Below w.heap.size w w' := by
  obtain ⟨k, s, n, l, c, o⟩ := t
  simp only [Tok.val]
  by_cases hk : k = 3
  · subst hk
    have hc : countT ⟨3, s, n, l, c, o⟩ = (decide (s = sNot) || decide (s = sAnd) || decide (s = sOr) || decide (s = sImp) || decide (s = sIff)) := by simp [countT, isSg, sameB_eq]
    rw [hc]
    clear hc
    by_cases h0 : s = sNot
    · have q0 := lit_t lNot h0
      have hv : (decide (s = sNot) || decide (s = sAnd) || decide (s = sOr) || decide (s = sImp) || decide (s = sIff)) = true := by simp [h0]
      rw [hv]
      clear hv h0
      go_enter Tryz.func30, Tryz.ntmps30
      go_wp2_with fail
      go_ret
      exact ⟨rfl, (Below.refl _ _).alloc (Nat.le_refl _) _⟩
    have q0 := lit_f lNot h0
    by_cases h1 : s = sAnd
    · have q1 := lit_t lAnd h1
      have hv : (decide (s = sNot) || decide (s = sAnd) || decide (s = sOr) || decide (s = sImp) || decide (s = sIff)) = true := by simp [h1]
      rw [hv]
      clear hv h0 h1
      go_enter Tryz.func30, Tryz.ntmps30
      go_wp2_with fail
      go_ret
      exact ⟨rfl, (Below.refl _ _).alloc (Nat.le_refl _) _⟩
    have q1 := lit_f lAnd h1
    by_cases h2 : s = sOr
    · have q2 := lit_t lOr h2
      have hv : (decide (s = sNot) || decide (s = sAnd) || decide (s = sOr) || decide (s = sImp) || decide (s = sIff)) = true := by simp [h2]
      rw [hv]
      clear hv h0 h1 h2
      go_enter Tryz.func30, Tryz.ntmps30
      go_wp2_with fail
      go_ret
      exact ⟨rfl, (Below.refl _ _).alloc (Nat.le_refl _) _⟩
    have q2 := lit_f lOr h2
    by_cases h3 : s = sImp
    · have q3 := lit_t lImp h3
      have hv : (decide (s = sNot) || decide (s = sAnd) || decide (s = sOr) || decide (s = sImp) || decide (s = sIff)) = true := by simp [h3]
      rw [hv]
      clear hv h0 h1 h2 h3
      go_enter Tryz.func30, Tryz.ntmps30
      go_wp2_with fail
      go_ret
      exact ⟨rfl, (Below.refl _ _).alloc (Nat.le_refl _) _⟩
    have q3 := lit_f lImp h3
    by_cases h4 : s = sIff
    · have q4 := lit_t lIff h4
      have hv : (decide (s = sNot) || decide (s = sAnd) || decide (s = sOr) || decide (s = sImp) || decide (s = sIff)) = true := by simp [h4]
      rw [hv]
      clear hv h0 h1 h2 h3 h4
      go_enter Tryz.func30, Tryz.ntmps30
      go_wp2_with fail
      go_ret
      exact ⟨rfl, (Below.refl _ _).alloc (Nat.le_refl _) _⟩
    have q4 := lit_f lIff h4
    have hv : (decide (s = sNot) || decide (s = sAnd) || decide (s = sOr) || decide (s = sImp) || decide (s = sIff)) = false := by simp [h0, h1, h2, h3, h4]
    rw [hv]
    clear hv h0 h1 h2 h3 h4
    go_enter Tryz.func30, Tryz.ntmps30
    go_wp2_with fail
    go_ret
    exact ⟨rfl, (Below.refl _ _).alloc (Nat.le_refl _) _⟩
  · have hc : countT ⟨k, s, n, l, c, o⟩ = decide (k = 1) := by simp [countT, isSg, hk]
    rw [hc]
    have hk2 : (k == 3) = false := by simp [hk]
    clear hc
    go_enter Tryz.func30, Tryz.ntmps30
    go_wp2_with fail
    go_ret
    refine ⟨?_, (Below.refl _ _).alloc (Nat.le_refl _) _⟩
    refine ret_bool ?_
    go_light
    by_cases h : k = 1 <;> simp [h]

theorem spot_of (t : Tok) (W : World) : (Instr.field 73 t.val 3).run Tryz.prog W = .ok (.agg #[.int .i64 t.l, .int .i64 t.c, .int .i64 t.o]) W := by
  obtain ⟨k, s, n, l, c, o⟩ := t
  show (Instr.field 73 (.agg #[.int .i64 k, .string s, .int .i64 n, .int .i64 l, .int .i64 c, .int .i64 o]) 3).run Tryz.prog W = .ok (.agg #[.int .i64 l, .int .i64 c, .int .i64 o]) W
  kernel_rfl

def brk (f : Flt) : Value := .iface 109 f.val
def pnc (f : Flt) : Ending := .panicked [{ v := brk f, recovered := false }]
def faultAt (ts : List Tok) (i : Nat) (x : Int) : Flt := ⟨x, (tokAt ts i).l, (tokAt ts i).c, (tokAt ts i).o⟩

set_option maxRecDepth 100000 in
set_option maxHeartbeats 1000000 in
theorem fail_any (w : World) (E : Env) (st : St) (x : Int) (h : RD w E st) :
    Calls Tryz.prog 35 #[.pointer (some ⟨E.rb, 0, none⟩), .int .i64 x] w fun e w' => e = pnc (faultAt E.ts st.i x) ∧ Below w.heap.size w w' := by
  have H := Lib.hid h
  clear h
  go_enter Tryz.func35, Tryz.ntmps35
  go_wp2_with fail
  refine (now_any w E st H.out).mono ?_
  rintro e w1 ⟨rfl, hb⟩
  have HB := Lib.hid hb
  clear hb
  have hf1 := spot_of (tokAt E.ts st.i) w1
  simp only [Tok.val] at *
  have hpan : ∀ (v : Value) (W : World), (Instr.panic (.iface 109 v)).run Tryz.prog W = .halt (.panic (.iface 109 v)) W := fun _ _ => rfl
  go_wp2_with fail
  exact ⟨rfl, rfl, HB.out⟩

/-- What a part of the reader leaves. -/
def RsPost (w : World) (E : Env) (g : Int → Value) (r : Rs) (e : Ending) (w' : World) : Prop :=
  match r with
  | .out => False
  | .bad f rows => e = pnc f ∧ Tab w' E.p rows E.G ∧ Fr E.S w w' ∧ rows.length ≤ 1024 ∧ rows.Nodup ∧ w'.cell? ⟨E.rb, 0, none⟩ = some (.pointer (some ⟨E.p, 0, none⟩))
  | .ok v st => e = .returned (g v) ∧ RD w' E st ∧ Fr E.S w w'

theorem take_bad (w w' : World) (E : Env) (st : St) (g : Int → Value) (x : Int) (h : RD w E st) (hb : Below w.heap.size w w') : RsPost w E g (failP E.ts st x) (pnc (faultAt E.ts st.i x)) w' :=
  ⟨rfl, h.tab.below hb, Fr.of_below hb _, h.rows, h.nodup, (h.below hb).cells.1⟩

end Go.Proofs.YtglnmkdlcbkpeaaGreatDoor
/- syntax: take. -/
set_option linter.unusedVariables false
set_option linter.unusedSimpArgs false
namespace Go.Proofs.YtglnmkdlcbkpeaaGreatDoor
open Go.RowKit

theorem set6_far {w : World} {B g : Nat} {o : Obj} (b0 b1 b2 b3 b4 b5 : Value) (h : w.heap[g]? = some o) (hne : g ≠ B) :
    ((((((w.setCell ⟨B, 0, none⟩ b0).setCell ⟨B, 1, none⟩ b1).setCell ⟨B, 2, none⟩ b2).setCell ⟨B, 3, none⟩ b3).setCell ⟨B, 4, none⟩ b4).setCell ⟨B, 5, none⟩ b5).heap[g]? = some o :=
  blk_far (blk_far (blk_far (blk_far (blk_far (blk_far h (p := ⟨B, 0, none⟩) hne _) (p := ⟨B, 1, none⟩) hne _) (p := ⟨B, 2, none⟩) hne _) (p := ⟨B, 3, none⟩) hne _) (p := ⟨B, 4, none⟩) hne _) (p := ⟨B, 5, none⟩) hne _
theorem fr6 {S : Nat → Prop} {w w1 : World} {B : Nat} (b0 b1 b2 b3 b4 b5 : Value) (h : Fr S w w1) (hB : B < w.heap.size → S B) :
    Fr S w ((((((w1.setCell ⟨B, 0, none⟩ b0).setCell ⟨B, 1, none⟩ b1).setCell ⟨B, 2, none⟩ b2).setCell ⟨B, 3, none⟩ b3).setCell ⟨B, 4, none⟩ b4).setCell ⟨B, 5, none⟩ b5) :=
  (((((h.setCell ⟨B, 0, none⟩ _ hB).setCell ⟨B, 1, none⟩ _ hB).setCell ⟨B, 2, none⟩ _ hB).setCell ⟨B, 3, none⟩ _ hB).setCell ⟨B, 4, none⟩ _ hB).setCell ⟨B, 5, none⟩ _ hB
/-- The end of take. -/
theorem take_end (w w2 w3 : World) (E : Env) (st st' : St) (t : Tok) (H : RD w2 E st) (hf : Fr E.S w w2) (hN : E.N ≤ w.heap.size)
    (hz : w2.heap[w.heap.size]? = some (.cells #[.int .i64 0, .string ⟨#[]⟩, .int .i64 0, .int .i64 0, .int .i64 0, .int .i64 0] 73 (0, 0)))
    (h3 : Fr (fun k => k = E.rb) w2 w3) (hrb : w3.heap[E.rb]? = some (.cells #[.pointer (some ⟨E.p, 0, none⟩), .slice E.la E.ts.length E.lc, .int .i64 st'.i, .int .i64 st'.names, .int .i64 st'.nest, .bool E.c, .bool st'.full] 85 (0, 0)))
    (e1 : st'.rows = st.rows) (h5 : st'.i ≤ E.ts.length) (h6 : st'.names ≤ 512) (h7 : st'.nest ≤ 1024) (w4 : World)
    (h4 : w4 = ((((((w3.setCell ⟨w.heap.size, 0, none⟩ (.int .i64 t.k)).setCell ⟨w.heap.size, 1, none⟩ (.string t.s)).setCell ⟨w.heap.size, 2, none⟩ (.int .i64 t.n)).setCell ⟨w.heap.size, 3, none⟩ (.int .i64 t.l)).setCell ⟨w.heap.size, 4, none⟩ (.int .i64 t.c)).setCell ⟨w.heap.size, 5, none⟩ (.int .i64 t.o))) :
    RD w4 E st' ∧ Fr E.S w w4 ∧ w4.heap[w.heap.size]? = some (.cells #[.int .i64 t.k, .string t.s, .int .i64 t.n, .int .i64 t.l, .int .i64 t.c, .int .i64 t.o] 73 (0, 0)) := by
  subst h4
  have hlt := H.rbN
  have h3' : Fr E.S w2 w3 := h3.mono (fun i _ e => .inl e)
  have hS : w.heap.size < w2.heap.size → E.S w.heap.size := fun _ => .inr (.inr hN)
  have hfr := fr6 (.int .i64 t.k) (.string t.s) (.int .i64 t.n) (.int .i64 t.l) (.int .i64 t.c) (.int .i64 t.o) h3' hS
  have hG : E.G w.heap.size := .inr hN
  refine ⟨H.fr hfr (set6_far _ _ _ _ _ _ hrb (by omega)) ?_ (by rw [e1]; exact H.rows) (by rw [e1]; exact H.nodup) h5 h6 h7, hf.trans hfr (fun _ _ h => h), set6 _ _ _ _ _ _ (h3.blk hz (by omega))⟩
  rw [e1]
  obtain ⟨m, a, c, es, cl, k1, k2, k3, k4, k5, k6, k7⟩ := H.tabS h3
  have hz3 := h3.blk hz (show ¬ w.heap.size = E.rb by omega)
  have n1 : E.p ≠ w.heap.size := fun e => by rw [e, hz3] at k1; injection k1 with k1; injection k1 with _ ht; exact absurd ht (by decide)
  have n2 : m ≠ w.heap.size := fun e => by rw [e, hz3] at k3; exact absurd k3 (by simp)
  have n3 : ∀ q, (Value.slice a st.rows.length c).ownBlock = some q → q ≠ w.heap.size := fun q hq e => by
    obtain ⟨cs, hc⟩ := own_typed k2 q hq
    rw [e, hz3] at hc
    injection hc with hc
    injection hc with _ ht
    exact absurd ht (by decide)
  exact ⟨m, a, c, es, cl, set6_far _ _ _ _ _ _ k1 n1, own_move k2 (fun q hq => by
    obtain ⟨cs, hc⟩ := own_typed k2 q hq
    rw [hc]; exact set6_far _ _ _ _ _ _ hc (n3 q hq)), set6_far _ _ _ _ _ _ k3 n2, k4, k5, k6, k7⟩

set_option maxRecDepth 100000 in
set_option maxHeartbeats 2000000 in
theorem take_fr (w : World) (E : Env) (st : St) (h : RD w E st) (hi : st.i < E.ts.length) :
    Calls Tryz.prog 65 #[.pointer (some ⟨E.rb, 0, none⟩)] w (fun e w' => RsPost w E (fun _ => (tokAt E.ts st.i).val) (takeP E.c E.ts st) e w' ∧ Fr (fun k => k = E.rb) w w') := by
  have H := Lib.hid h
  have hN := h.size
  have hrb : E.rb < w.heap.size := Nat.lt_of_lt_of_le h.rbN h.size
  have hln := h.len
  have hnm := h.names
  clear h
  by_cases hc : (countT (tokAt E.ts st.i) && E.c) = true
  · have hc1 : countT (tokAt E.ts st.i) = true := by revert hc; cases countT (tokAt E.ts st.i) <;> simp
    have hc2 : E.c = true := by revert hc; cases E.c <;> simp
    by_cases hn : st.names = 512
    · have hr : takeP E.c E.ts st = failP E.ts st 40 := by rw [takeP, if_pos hc, if_pos hn]
      rw [hr]
      have hn2 : ((st.names : Int) == 512) = true := by rw [hn]; rfl
      clear hr
      clear hc
      go_enter Tryz.func65, Tryz.ntmps65
      go_wp2_with fail
      have hb0 := (Below.refl w.heap.size w).alloc (Nat.le_refl _) (.cells #[.int .i64 0, .string ⟨#[]⟩, .int .i64 0, .int .i64 0, .int .i64 0, .int .i64 0] 73)
      refine (now_any _ E st (H.out.below hb0)).mono ?_
      rintro e w1 ⟨rfl, hb⟩
      have Z1 := Lib.hid (blk_below' (blk_new w _) hb)
      have HB1 := Lib.hid (below_tail hb)
      have H1 := Lib.hid (H.out.below HB1.out)
      have hs1 := HB1.out.size
      have hz1 := blk_lt Z1.out
      clear hb hb0
      simp only [Tok.val]
      go_wp2_with fail
      have hb1 := (Below.refl w1.heap.size w1).alloc (Nat.le_refl _) (.cells #[.int .i64 (tokAt E.ts st.i).k, .string (tokAt E.ts st.i).s, .int .i64 (tokAt E.ts st.i).n, .int .i64 (tokAt E.ts st.i).l, .int .i64 (tokAt E.ts st.i).c, .int .i64 (tokAt E.ts st.i).o] 73)
      refine (counted_any _ (tokAt E.ts st.i)).mono ?_
      rintro e w2 ⟨rfl, hb⟩
      have T2 := Lib.hid (blk_below' (blk_new w1 _) hb)
      have HB2 := Lib.hid (below_tail hb)
      have Z2 := Lib.hid (blk_below' Z1.out HB2.out)
      have H2 := Lib.hid (H1.out.below HB2.out)
      have hs2 := HB2.out.size
      have ht2 := blk_lt T2.out
      clear hb hb1
      obtain ⟨d0, d1, d2, d3, d4, d5, d6⟩ := H2.out.cells
      obtain ⟨f0, f1, f2, f3, f4, f5⟩ := tok_cells T2.out
      obtain ⟨z0, z1, z2, z3, z4, z5, y0, y1, y2, y3, y4, y5⟩ := zero_tok Z2.out
      have r2 : w2.frozen? ⟨E.rb, 2, none⟩ = false := blk_frozen H2.out.rd 2
      have r3 : w2.frozen? ⟨E.rb, 3, none⟩ = false := blk_frozen H2.out.rd 3
      clear d0 d1 d4 d6
      have n1 : ¬ w1.heap.size = E.rb := by omega
      have n2 : ¬ w.heap.size = E.rb := by omega
      have n3 : ¬ w1.heap.size = w.heap.size := by omega
      have n4 : ¬ E.rb = w1.heap.size := by omega
      have n5 : ¬ E.rb = w.heap.size := by omega
      rw [hc1]
      rw [hc2] at d5
      go_wp2_with fail
      refine (fail_any w2 E st 40 H2.out).mono ?_
      rintro e w3 ⟨rfl, hb⟩
      exact ⟨rfl, take_bad w w3 E st _ 40 H.out ((HB1.out.trans (HB2.out.mono hs1)).trans (hb.mono (by omega))), Fr.of_below ((HB1.out.trans (HB2.out.mono hs1)).trans (hb.mono (by omega))) _⟩
    · have hr : takeP E.c E.ts st = .ok 0 { st with names := st.names + 1, i := st.i + 1 } := by rw [takeP, if_pos hc, if_neg hn]
      rw [hr]
      have hn2 : ((st.names : Int) == 512) = false := by simp; omega
      clear hr
      clear hc
      go_enter Tryz.func65, Tryz.ntmps65
      go_wp2_with fail
      have hb0 := (Below.refl w.heap.size w).alloc (Nat.le_refl _) (.cells #[.int .i64 0, .string ⟨#[]⟩, .int .i64 0, .int .i64 0, .int .i64 0, .int .i64 0] 73)
      refine (now_any _ E st (H.out.below hb0)).mono ?_
      rintro e w1 ⟨rfl, hb⟩
      have Z1 := Lib.hid (blk_below' (blk_new w _) hb)
      have HB1 := Lib.hid (below_tail hb)
      have H1 := Lib.hid (H.out.below HB1.out)
      have hs1 := HB1.out.size
      have hz1 := blk_lt Z1.out
      clear hb hb0
      simp only [Tok.val]
      go_wp2_with fail
      have hb1 := (Below.refl w1.heap.size w1).alloc (Nat.le_refl _) (.cells #[.int .i64 (tokAt E.ts st.i).k, .string (tokAt E.ts st.i).s, .int .i64 (tokAt E.ts st.i).n, .int .i64 (tokAt E.ts st.i).l, .int .i64 (tokAt E.ts st.i).c, .int .i64 (tokAt E.ts st.i).o] 73)
      refine (counted_any _ (tokAt E.ts st.i)).mono ?_
      rintro e w2 ⟨rfl, hb⟩
      have T2 := Lib.hid (blk_below' (blk_new w1 _) hb)
      have HB2 := Lib.hid (below_tail hb)
      have Z2 := Lib.hid (blk_below' Z1.out HB2.out)
      have H2 := Lib.hid (H1.out.below HB2.out)
      have hs2 := HB2.out.size
      have ht2 := blk_lt T2.out
      clear hb hb1
      obtain ⟨d0, d1, d2, d3, d4, d5, d6⟩ := H2.out.cells
      obtain ⟨f0, f1, f2, f3, f4, f5⟩ := tok_cells T2.out
      obtain ⟨z0, z1, z2, z3, z4, z5, y0, y1, y2, y3, y4, y5⟩ := zero_tok Z2.out
      have r2 : w2.frozen? ⟨E.rb, 2, none⟩ = false := blk_frozen H2.out.rd 2
      have r3 : w2.frozen? ⟨E.rb, 3, none⟩ = false := blk_frozen H2.out.rd 3
      clear d0 d1 d4 d6
      have n1 : ¬ w1.heap.size = E.rb := by omega
      have n2 : ¬ w.heap.size = E.rb := by omega
      have n3 : ¬ w1.heap.size = w.heap.size := by omega
      have n4 : ¬ E.rb = w1.heap.size := by omega
      have n5 : ¬ E.rb = w.heap.size := by omega
      rw [hc1]
      rw [hc2] at d5
      go_wp2_with fail
      generalize hw4 : World.setCell _ _ _ = w4
      have hfr : Fr E.S w w2 := Fr.of_below (HB1.out.trans (HB2.out.mono hs1)) _
      obtain ⟨k1, k2, k3⟩ := take_end w w2 _ E st { st with names := st.names + 1, i := st.i + 1 } (tokAt E.ts st.i) H2.out hfr hN Z2.out (((Fr.refl (fun k => k = E.rb) w2).setCell ⟨E.rb, 3, none⟩ _ (fun _ => rfl)).setCell ⟨E.rb, 2, none⟩ _ (fun _ => rfl)) (blk_set (blk_set H2.out.rd 3 _) 2 _) rfl (by show st.i + 1 ≤ _; omega) (by first | (show st.names + 1 ≤ 512; omega) | exact H2.out.names) H2.out.nest w4 hw4.symm
      obtain ⟨g0, g1, g2, g3, g4, g5⟩ := tok_cells k3
      have hrf : Fr (fun k => k = E.rb) w w4 := by
        rw [← hw4]
        exact fr6 _ _ _ _ _ _ ((Fr.of_below (HB1.out.trans (HB2.out.mono hs1)) (fun k => k = E.rb)).trans (((Fr.refl (fun k => k = E.rb) w2).setCell ⟨E.rb, 3, none⟩ _ (fun _ => rfl)).setCell ⟨E.rb, 2, none⟩ _ (fun _ => rfl)) (fun _ _ h => h)) (fun h => absurd h (by omega))
      exact bodyPost_ret (v := (tokAt E.ts st.i).val) (by simp [results, Tryz.results65, go_sem, Tok.val, g0, g1, g2, g3, g4, g5]) rfl ⟨⟨rfl, k1, k2⟩, hrf⟩
  · have hr : takeP E.c E.ts st = .ok 0 { st with i := st.i + 1 } := by rw [takeP, if_neg hc]
    rw [hr]
    clear hr
    have hc2 : countT (tokAt E.ts st.i) = false ∨ (countT (tokAt E.ts st.i) = true ∧ E.c = false) := by
      revert hc
      cases countT (tokAt E.ts st.i) <;> cases E.c <;> simp
    clear hc
    go_enter Tryz.func65, Tryz.ntmps65
    go_wp2_with fail
    have hb0 := (Below.refl w.heap.size w).alloc (Nat.le_refl _) (.cells #[.int .i64 0, .string ⟨#[]⟩, .int .i64 0, .int .i64 0, .int .i64 0, .int .i64 0] 73)
    refine (now_any _ E st (H.out.below hb0)).mono ?_
    rintro e w1 ⟨rfl, hb⟩
    have Z1 := Lib.hid (blk_below' (blk_new w _) hb)
    have HB1 := Lib.hid (below_tail hb)
    have H1 := Lib.hid (H.out.below HB1.out)
    have hs1 := HB1.out.size
    have hz1 := blk_lt Z1.out
    clear hb hb0
    simp only [Tok.val]
    go_wp2_with fail
    have hb1 := (Below.refl w1.heap.size w1).alloc (Nat.le_refl _) (.cells #[.int .i64 (tokAt E.ts st.i).k, .string (tokAt E.ts st.i).s, .int .i64 (tokAt E.ts st.i).n, .int .i64 (tokAt E.ts st.i).l, .int .i64 (tokAt E.ts st.i).c, .int .i64 (tokAt E.ts st.i).o] 73)
    refine (counted_any _ (tokAt E.ts st.i)).mono ?_
    rintro e w2 ⟨rfl, hb⟩
    have T2 := Lib.hid (blk_below' (blk_new w1 _) hb)
    have HB2 := Lib.hid (below_tail hb)
    have Z2 := Lib.hid (blk_below' Z1.out HB2.out)
    have H2 := Lib.hid (H1.out.below HB2.out)
    have hs2 := HB2.out.size
    have ht2 := blk_lt T2.out
    clear hb hb1
    obtain ⟨d0, d1, d2, d3, d4, d5, d6⟩ := H2.out.cells
    obtain ⟨f0, f1, f2, f3, f4, f5⟩ := tok_cells T2.out
    obtain ⟨z0, z1, z2, z3, z4, z5, y0, y1, y2, y3, y4, y5⟩ := zero_tok Z2.out
    have r2 : w2.frozen? ⟨E.rb, 2, none⟩ = false := blk_frozen H2.out.rd 2
    have r3 : w2.frozen? ⟨E.rb, 3, none⟩ = false := blk_frozen H2.out.rd 3
    clear d0 d1 d4 d6
    have n1 : ¬ w1.heap.size = E.rb := by omega
    have n2 : ¬ w.heap.size = E.rb := by omega
    have n3 : ¬ w1.heap.size = w.heap.size := by omega
    have n4 : ¬ E.rb = w1.heap.size := by omega
    have n5 : ¬ E.rb = w.heap.size := by omega
    rcases hc2 with hc1 | ⟨hc1, hc2⟩
    · rw [hc1]
      go_wp2_with fail
      generalize hw4 : World.setCell _ _ _ = w4
      have hfr : Fr E.S w w2 := Fr.of_below (HB1.out.trans (HB2.out.mono hs1)) _
      obtain ⟨k1, k2, k3⟩ := take_end w w2 _ E st { st with i := st.i + 1 } (tokAt E.ts st.i) H2.out hfr hN Z2.out ((Fr.refl (fun k => k = E.rb) w2).setCell ⟨E.rb, 2, none⟩ _ (fun _ => rfl)) (blk_set H2.out.rd 2 _) rfl (by show st.i + 1 ≤ _; omega) (by first | (show st.names + 1 ≤ 512; omega) | exact H2.out.names) H2.out.nest w4 hw4.symm
      obtain ⟨g0, g1, g2, g3, g4, g5⟩ := tok_cells k3
      have hrf : Fr (fun k => k = E.rb) w w4 := by
        rw [← hw4]
        exact fr6 _ _ _ _ _ _ ((Fr.of_below (HB1.out.trans (HB2.out.mono hs1)) (fun k => k = E.rb)).trans ((Fr.refl (fun k => k = E.rb) w2).setCell ⟨E.rb, 2, none⟩ _ (fun _ => rfl)) (fun _ _ h => h)) (fun h => absurd h (by omega))
      exact bodyPost_ret (v := (tokAt E.ts st.i).val) (by simp [results, Tryz.results65, go_sem, Tok.val, g0, g1, g2, g3, g4, g5]) rfl ⟨⟨rfl, k1, k2⟩, hrf⟩
    · rw [hc1]
      rw [hc2] at d5
      go_wp2_with fail
      generalize hw4 : World.setCell _ _ _ = w4
      have hfr : Fr E.S w w2 := Fr.of_below (HB1.out.trans (HB2.out.mono hs1)) _
      obtain ⟨k1, k2, k3⟩ := take_end w w2 _ E st { st with i := st.i + 1 } (tokAt E.ts st.i) H2.out hfr hN Z2.out ((Fr.refl (fun k => k = E.rb) w2).setCell ⟨E.rb, 2, none⟩ _ (fun _ => rfl)) (blk_set H2.out.rd 2 _) rfl (by show st.i + 1 ≤ _; omega) (by first | (show st.names + 1 ≤ 512; omega) | exact H2.out.names) H2.out.nest w4 hw4.symm
      obtain ⟨g0, g1, g2, g3, g4, g5⟩ := tok_cells k3
      have hrf : Fr (fun k => k = E.rb) w w4 := by
        rw [← hw4]
        exact fr6 _ _ _ _ _ _ ((Fr.of_below (HB1.out.trans (HB2.out.mono hs1)) (fun k => k = E.rb)).trans ((Fr.refl (fun k => k = E.rb) w2).setCell ⟨E.rb, 2, none⟩ _ (fun _ => rfl)) (fun _ _ h => h)) (fun h => absurd h (by omega))
      exact bodyPost_ret (v := (tokAt E.ts st.i).val) (by simp [results, Tryz.results65, go_sem, Tok.val, g0, g1, g2, g3, g4, g5]) rfl ⟨⟨rfl, k1, k2⟩, hrf⟩
theorem take_any (w : World) (E : Env) (st : St) (h : RD w E st) (hi : st.i < E.ts.length) :
    Calls Tryz.prog 65 #[.pointer (some ⟨E.rb, 0, none⟩)] w (RsPost w E (fun _ => (tokAt E.ts st.i).val) (takeP E.c E.ts st)) := (take_fr w E st h hi).mono (fun _ _ h => h.1)
end Go.Proofs.YtglnmkdlcbkpeaaGreatDoor
/- syntax: sign, put, node. -/
set_option linter.unusedVariables false
set_option linter.unusedSimpArgs false
namespace Go.Proofs.YtglnmkdlcbkpeaaGreatDoor
open Go.RowKit

theorem isSg_lt {ts : List Tok} {i : Nat} {s : ByteArray} (h : isSg (tokAt ts i) s = true) : i < ts.length := by
  rcases Nat.lt_or_ge i ts.length with h1 | h1
  · exact h1
  · have : tokAt ts i = zeroTok := by simp [tokAt, h1]
    rw [this] at h
    simp [isSg, zeroTok] at h

theorem RsPost.pre {w w1 w' : World} {E : Env} {g : Int → Value} {r : Rs} {e : Ending} (h : RsPost w1 E g r e w') (hf : Fr E.S w w1) : RsPost w E g r e w' := by
  cases r with
  | out => exact h
  | bad f rows => exact ⟨h.1, h.2.1, hf.trans h.2.2.1 (fun _ _ h => h), h.2.2.2⟩
  | ok v st => exact ⟨h.1, h.2.1, hf.trans h.2.2 (fun _ _ h => h)⟩

def SignPost (w : World) (E : Env) (st : St) (s : ByteArray) (e : Ending) (w' : World) : Prop :=
  if isSg (tokAt E.ts st.i) s = true then RsPost w E (fun _ => .bool true) (takeP E.c E.ts st) e w' else e = .returned (.bool false) ∧ Below w.heap.size w w'

set_option maxRecDepth 100000 in
set_option maxHeartbeats 2000000 in
theorem sign_rd (w : World) (E : Env) (st : St) (s : ByteArray) (h : RD w E st) :
    Calls Tryz.prog 53 #[.pointer (some ⟨E.rb, 0, none⟩), .string s] w (SignPost w E st s) := by
  have H := Lib.hid h
  clear h
  by_cases hs : isSg (tokAt E.ts st.i) s = true
  · have hlt := isSg_lt hs
    have hk : (tokAt E.ts st.i).k = 3 ∧ (tokAt E.ts st.i).s = s := by simpa [isSg, sameB_eq] using hs
    have hp : SignPost w E st s = RsPost w E (fun _ => .bool true) (takeP E.c E.ts st) := by funext e w'; rw [SignPost, if_pos hs]
    rw [hp]
    clear hp hs
    have hk1 := hk.1
    have hk2 := hk.2
    clear hk
    go_enter Tryz.func53, Tryz.ntmps53
    go_wp2_with fail
    refine (now_any _ E st H.out).mono ?_
    rintro e w1 ⟨rfl, hb⟩
    have HB1 := Lib.hid hb
    have H1 := Lib.hid (H.out.below hb)
    clear hb
    simp only [Tok.val]
    rw [hk1, hk2]
    go_wp2_with fail
    have hb2 := HB1.out.alloc HB1.out.size (.cells #[.int .i64 3, .string s, .int .i64 (tokAt E.ts st.i).n, .int .i64 (tokAt E.ts st.i).l, .int .i64 (tokAt E.ts st.i).c, .int .i64 (tokAt E.ts st.i).o] 73)
    refine (take_any _ E st (H.out.below hb2) hlt).mono ?_
    intro e w3 hp
    have HP := Lib.hid hp
    have HB2 := Lib.hid hb2
    clear hp hb2
    cases hr : takeP E.c E.ts st with
    | out => have := HP.out; rw [hr] at this; exact this.elim
    | bad f rows =>
      have hp := HP.out
      rw [hr] at hp
      have hp2 := hp.pre (w := w) (Fr.of_below HB2.out _)
      obtain ⟨rfl, _⟩ := hp
      refine ⟨rfl, ?_⟩
      rw [hr]
      exact hp2
    | ok v st' =>
      have hp := HP.out
      rw [hr] at hp
      have hp2 := hp.pre (w := w) (Fr.of_below HB2.out _)
      obtain ⟨rfl, _⟩ := hp
      have HP2 := Lib.hid hp2
      clear hp2 HP
      go_wp2_with fail
      go_ret
      show RsPost w E _ (takeP E.c E.ts st) _ _
      rw [hr]
      exact ⟨rfl, HP2.out.2⟩
  · have hp : SignPost w E st s = fun e w' => e = .returned (.bool false) ∧ Below w.heap.size w w' := by funext e w'; rw [SignPost, if_neg hs]
    rw [hp]
    have hk : ¬ ((tokAt E.ts st.i).k = 3 ∧ (tokAt E.ts st.i).s = s) := fun h => hs (by simp [isSg, sameB_eq, h.1, h.2])
    clear hp hs
    by_cases hk1 : (tokAt E.ts st.i).k = 3
    · have hk2 : ¬ (tokAt E.ts st.i).s = s := fun h => hk ⟨hk1, h⟩
      have hk3 : ((tokAt E.ts st.i).s.toList == s.toList) = false := by rw [lit_eq _ s _ rfl]; simp [hk2]
      clear hk hk2
      go_enter Tryz.func53, Tryz.ntmps53
      go_wp2_with fail
      refine (now_any _ E st H.out).mono ?_
      rintro e w1 ⟨rfl, hb⟩
      have HB1 := Lib.hid hb
      clear hb
      simp only [Tok.val]
      rw [hk1]
      go_wp2_with fail
      go_ret
      exact ⟨rfl, HB1.out.alloc HB1.out.size _⟩
    · have hk3 : ((tokAt E.ts st.i).k != 3) = true := by simp [hk1]
      clear hk hk1
      go_enter Tryz.func53, Tryz.ntmps53
      go_wp2_with fail
      refine (now_any _ E st H.out).mono ?_
      rintro e w1 ⟨rfl, hb⟩
      have HB1 := Lib.hid hb
      clear hb
      simp only [Tok.val]
      go_wp2_with fail
      go_ret
      exact ⟨rfl, HB1.out.alloc HB1.out.size _⟩

set_option maxRecDepth 100000 in
set_option maxHeartbeats 2000000 in
theorem put_rd (w : World) (E : Env) (st : St) (v x : Int) (h : RD w E st) :
    Calls Tryz.prog 66 #[.pointer (some ⟨E.rb, 0, none⟩), .int .i64 v, .int .i64 x] w fun e w' => e = .returned (.int .i64 v) ∧ RD w' E { st with full := st.full || decide (x = 30) } ∧ Fr E.S w w' := by
  obtain ⟨d0, d1, d2, d3, d4, d5, d6⟩ := h.cells
  have r6 : w.frozen? ⟨E.rb, 6, none⟩ = false := blk_frozen h.rd 6
  have hend : ∀ b : Bool, RD (w.setCell ⟨E.rb, 6, none⟩ (.bool b)) E { st with full := b } ∧ Fr E.S w (w.setCell ⟨E.rb, 6, none⟩ (.bool b)) := fun b => by
    have hf : Fr (fun k => k = E.rb) w (w.setCell ⟨E.rb, 6, none⟩ (.bool b)) := (Fr.refl _ w).setCell _ _ (fun _ => rfl)
    have hf2 : Fr E.S w (w.setCell ⟨E.rb, 6, none⟩ (.bool b)) := hf.mono (fun i _ e => .inl e)
    exact ⟨h.fr hf2 (blk_set h.rd 6 _) (h.tabS hf) h.rows h.nodup h.i h.names h.nest, hf2⟩
  have Hend := Lib.hid hend
  clear h hend d0 d1 d2 d3 d4 d5
  cases hfl : st.full with
  | true =>
    rw [hfl] at d6
    clear hfl
    go_enter Tryz.func66, Tryz.ntmps66
    go_wp2_with fail
    go_ret
    exact ⟨rfl, Hend.out true⟩
  | false =>
    rw [hfl] at d6
    clear hfl
    by_cases hx : x = 30
    · subst hx
      go_enter Tryz.func66, Tryz.ntmps66
      go_wp2_with fail
      go_ret
      exact ⟨rfl, Hend.out true⟩
    · have hx1 : (x == 30) = false := by simp [hx]
      have hx2 : (false || decide (x = 30)) = false := by simp [hx]
      rw [hx2]
      clear hx hx2
      go_enter Tryz.func66, Tryz.ntmps66
      go_wp2_with fail
      go_ret
      exact ⟨rfl, Hend.out false⟩

theorem putR_nodup {rows : List Nd} (d : Nd) (h : rows.Nodup) : (putR rows d).2.2.Nodup := by
  by_cases hf : fitsN rows.length d = 0
  · cases hfi : findN rows d with
    | some i => rw [putR_found hf hfi]; exact h
    | none =>
      by_cases hn : 1024 ≤ rows.length
      · rw [putR_full hf hfi hn]; exact h
      · rw [putR_new hf hfi hn]
        refine List.nodup_append.2 ⟨h, by simp, fun a ha b hb => ?_⟩
        rw [findN, List.findIdx?_eq_none_iff] at hfi
        have := hfi a ha
        simp at hb this
        subst hb
        exact fun e => this e.symm
  · rw [putR_unfit hf]; exact h
theorem putR_len {rows : List Nd} (d : Nd) (h : rows.length ≤ 1024) : (putR rows d).2.2.length ≤ 1024 := by
  by_cases hf : fitsN rows.length d = 0
  · cases hfi : findN rows d with
    | some i => rw [putR_found hf hfi]; exact h
    | none =>
      by_cases hn : 1024 ≤ rows.length
      · rw [putR_full hf hfi hn]; exact h
      · rw [putR_new hf hfi hn]; simp; omega
  · rw [putR_unfit hf]; exact h

set_option maxRecDepth 100000 in
set_option maxHeartbeats 2000000 in
theorem node_rd (w : World) (E : Env) (st : St) (k : Int) (name : ByteArray) (a b : Int) (h : RD w E st) (hs : name.size ≤ 140737488355328) :
    Calls Tryz.prog 54 #[.pointer (some ⟨E.rb, 0, none⟩), .int .i64 k, .string name, .int .i64 a, .int .i64 b] w fun e w' => e = .returned (.int .i64 (nodeP st k name a b).1) ∧ RD w' E (nodeP st k name a b).2 ∧ Fr E.S w w' := by
  obtain ⟨d0, d1, d2, d3, d4, d5, d6⟩ := h.cells
  have H := Lib.hid h
  clear h d1 d2 d3 d4 d5
  cases hfl : st.full with
  | true =>
    have hp : nodeP st k name a b = (0, st) := by rw [nodeP, if_pos hfl]
    rw [hp]
    rw [hfl] at d6
    clear hfl hp
    go_enter Tryz.func54, Tryz.ntmps54
    go_wp2_with fail
    go_ret
    exact ⟨rfl, H.out, Fr.refl _ _⟩
  | false =>
    have hp : nodeP st k name a b = ((putR st.rows ⟨k, name, a, b⟩).1, { st with rows := (putR st.rows ⟨k, name, a, b⟩).2.2, full := decide ((putR st.rows ⟨k, name, a, b⟩).2.1 = 30) }) := by rw [nodeP, if_neg (by simp [hfl])]
    rw [hp]
    have Hfl := Lib.hid hfl
    rw [hfl] at d6
    clear hfl hp
    go_enter Tryz.func54, Tryz.ntmps54
    go_wp2_with fail
    refine (put_tab w E.p st.rows E.G ⟨k, name, a, b⟩ H.out.tab H.out.rows hs).mono ?_
    rintro e w1 ⟨rfl, hT, hF⟩
    have hF2 : Fr E.S w w1 := hF.mono (fun i _ hi => .inr hi)
    have hrb : ¬ E.G E.rb := fun hg => by rcases hg with hg | hg; exact H.out.rbF hg; have := H.out.rbN; omega
    have H1 : Hid (RD w1 E { st with rows := (putR st.rows ⟨k, name, a, b⟩).2.2 }) := Lib.hid (H.out.fr hF2 (hF.blk H.out.rd hrb) (hT.mono (fun q hq => hq.elim id (fun h => .inr (Nat.le_trans H.out.size h)))) (putR_len _ H.out.rows) (putR_nodup _ H.out.nodup) H.out.i H.out.names H.out.nest)
    have HF := Lib.hid hF2
    clear hT hF hF2 hrb
    go_wp2_with fail
    refine (put_rd w1 E _ _ _ H1.out).mono ?_
    rintro e w2 ⟨rfl, hR, hF⟩
    have hR2 := hR
    simp only [Hfl.out, Bool.false_or] at hR2
    have HR := Lib.hid hR2
    have HF2 := Lib.hid (HF.out.trans hF (fun _ _ h => h))
    clear hR hR2 hF
    go_wp2_with fail
    go_ret
    exact ⟨rfl, HR.out, HF2.out⟩
end Go.Proofs.YtglnmkdlcbkpeaaGreatDoor
