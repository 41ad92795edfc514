/-
  Package syntax: the reader's rows and plain laws.
-/
import Derived.Test.YtglnmkdlcbkpeaaGreatDoorGP
/- syntax: the reader's recursion. (Printed by wip/tools/genpf.py.) -/
set_option linter.unusedVariables false
set_option linter.unusedSimpArgs false
namespace Go.Proofs.YtglnmkdlcbkpeaaGreatDoor
open Go.RowKit

def lvV (E : Env) (lv : Bool) : Value := .func (if lv then .func 64 else .func 79) #[.pointer (some ⟨E.rb, 0, none⟩)] #[]
def mdF : Md → FuncId
  | .formula => 33
  | .implied => 52
  | .row true => 63
  | .row false => 64
  | .rowL _ _ => 0
  | .single => 79
def mdA (E : Env) : Md → Array Value
  | .row true => #[.pointer (some ⟨E.rb, 0, none⟩), .string sOr, lvV E true, .int .i64 4]
  | _ => #[.pointer (some ⟨E.rb, 0, none⟩)]
/-- What is known of less fuel. -/
def Ih (E : Env) (f : Nat) : Prop := ∀ (md : Md) (st : St) (w : World), RD w E st → parseP E.c E.ts f md st ≠ .out → (match md with | .rowL _ _ => False | _ => True) → Calls Tryz.prog (mdF md) (mdA E md) w (RsPost w E (Value.int .i64) (parseP E.c E.ts f md st))
theorem Ih.formula {E : Env} {f : Nat} (h : Ih E f) (st : St) (w : World) (k : RD w E st) (hn : parseP E.c E.ts f .formula st ≠ .out) : Calls Tryz.prog 33 #[.pointer (some ⟨E.rb, 0, none⟩)] w (RsPost w E (Value.int .i64) (parseP E.c E.ts f .formula st)) := h .formula st w k hn trivial
theorem Ih.implied {E : Env} {f : Nat} (h : Ih E f) (st : St) (w : World) (k : RD w E st) (hn : parseP E.c E.ts f .implied st ≠ .out) : Calls Tryz.prog 52 #[.pointer (some ⟨E.rb, 0, none⟩)] w (RsPost w E (Value.int .i64) (parseP E.c E.ts f .implied st)) := h .implied st w k hn trivial
theorem Ih.or {E : Env} {f : Nat} (h : Ih E f) (st : St) (w : World) (k : RD w E st) (hn : parseP E.c E.ts f (.row true) st ≠ .out) : Calls Tryz.prog 63 #[.pointer (some ⟨E.rb, 0, none⟩), .string sOr, lvV E true, .int .i64 4] w (RsPost w E (Value.int .i64) (parseP E.c E.ts f (.row true) st)) := h (.row true) st w k hn trivial
theorem Ih.both {E : Env} {f : Nat} (h : Ih E f) (st : St) (w : World) (k : RD w E st) (hn : parseP E.c E.ts f (.row false) st ≠ .out) : Calls Tryz.prog 64 #[.pointer (some ⟨E.rb, 0, none⟩)] w (RsPost w E (Value.int .i64) (parseP E.c E.ts f (.row false) st)) := h (.row false) st w k hn trivial
theorem Ih.single {E : Env} {f : Nat} (h : Ih E f) (st : St) (w : World) (k : RD w E st) (hn : parseP E.c E.ts f .single st ≠ .out) : Calls Tryz.prog 79 #[.pointer (some ⟨E.rb, 0, none⟩)] w (RsPost w E (Value.int .i64) (parseP E.c E.ts f .single st)) := h .single st w k hn trivial

set_option maxRecDepth 100000 in
set_option maxHeartbeats 4000000 in
theorem formula_step (E : Env) (f : Nat) (Hih : Hid (∀ g, g ≤ f → Ih E g)) (st : St) (w : World) (h : RD w E st) (hne : parseP E.c E.ts (f + 1) .formula st ≠ .out) :
    Calls Tryz.prog 33 #[.pointer (some ⟨E.rb, 0, none⟩)] w (RsPost w E (Value.int .i64) (parseP E.c E.ts (f + 1) .formula st)) := by
  generalize hR : parseP E.c E.ts (f + 1) .formula st = R at hne ⊢
  rw [parseP] at hR
  have H0 := Lib.hid h
  have F0 := Lib.hid (Fr.refl E.S w)
  have HR := Lib.hid hR
  have Hne := Lib.hid hne
  clear h hR hne
  go_enter Tryz.func33, Tryz.ntmps33
  go_wp2_with fail
  have hn1 : parseP E.c E.ts f .implied st ≠ .out := fun h => Hne.out (by have := HR.out; rw [h] at this; exact this.symm)
  refine (Ih.implied (Hih.out f (Nat.le_refl _)) st w H0.out hn1).mono ?_
  intro e w1 hp
  have hR := HR.out
  clear HR hn1
  generalize hq : parseP E.c E.ts f .implied st = r at hp hR
  cases r with
  | out => exact hp.elim
  | bad fl rws =>
    obtain ⟨rfl, p1, p2, p3⟩ := hp
    simp only [Rs.bind] at hR
    subst hR
    exact ⟨rfl, rfl, p1, F0.out.trans p2 (fun _ _ h => h), p3⟩
  | ok v1 st1 =>
    obtain ⟨rfl, p1, p2⟩ := hp
    simp only [Rs.bind] at hR
    have H1 := Lib.hid p1
    have F1 := Lib.hid (F0.out.trans p2 (fun _ _ h => h))
    have HR := Lib.hid hR
    have I1 := Lib.hid (ext_i (parse_ext _ _ _ _ _) hq)
    clear p1 p2 hR hq
    go_wp2_with fail
    refine (sign_rd w1 E st1 sIff H1.out).mono ?_
    intro e w2 hp
    by_cases hs : isSg (tokAt E.ts st1.i) sIff = true
    · have hR := HR.out
      rw [signR, if_pos hs] at hR
      rw [SignPost, if_pos hs] at hp
      have HR := Lib.hid hR
      clear hR hs
      have hR := HR.out
      clear HR
      generalize hq : takeP E.c E.ts st1 = r at hp hR
      cases r with
      | out => exact hp.elim
      | bad fl rws =>
        obtain ⟨rfl, p1, p2, p3⟩ := hp
        simp only [Rs.bind] at hR
        subst hR
        exact ⟨rfl, rfl, p1, F1.out.trans p2 (fun _ _ h => h), p3⟩
      | ok v2 st2 =>
        obtain ⟨rfl, p1, p2⟩ := hp
        simp only [Rs.bind] at hR
        have H2 := Lib.hid p1
        have F2 := Lib.hid (F1.out.trans p2 (fun _ _ h => h))
        have HR := Lib.hid hR
        have I2 := Lib.hid (take_i hq)
        clear p1 p2 hR hq
        go_wp2_with fail
        have hn3 : parseP E.c E.ts f .formula st2 ≠ .out := fun h => Hne.out (by have := HR.out; rw [h] at this; exact this.symm)
        refine (Ih.formula (Hih.out f (Nat.le_refl _)) st2 w2 H2.out hn3).mono ?_
        intro e w3 hp
        have hR := HR.out
        clear HR hn3
        generalize hq : parseP E.c E.ts f .formula st2 = r at hp hR
        cases r with
        | out => exact hp.elim
        | bad fl rws =>
          obtain ⟨rfl, p1, p2, p3⟩ := hp
          simp only [Rs.bind] at hR
          subst hR
          exact ⟨rfl, rfl, p1, F2.out.trans p2 (fun _ _ h => h), p3⟩
        | ok v3 st3 =>
          obtain ⟨rfl, p1, p2⟩ := hp
          simp only [Rs.bind] at hR
          have H3 := Lib.hid p1
          have F3 := Lib.hid (F2.out.trans p2 (fun _ _ h => h))
          have HR := Lib.hid hR
          have I3 := Lib.hid (ext_i (parse_ext _ _ _ _ _) hq)
          clear p1 p2 hR hq
          go_wp2_with fail
          refine (node_rd w3 E st3 5 noText v1 v3 H3.out (by decide)).mono ?_
          rintro e w4 ⟨he, p1, p2⟩
          have hR := HR.out
          clear HR
          try simp only [nodeK] at hR
          have hq := (nodeP_ext st3 5 noText v1 v3).2
          generalize nodeP st3 5 noText v1 v3 = r at he p1 hR hq
          obtain ⟨v4, st4⟩ := r
          simp only at he p1 hR hq
          subst he
          have H4 := Lib.hid p1
          have F4 := Lib.hid (F3.out.trans p2 (fun _ _ h => h))
          have HR := Lib.hid hR
          have I4 := Lib.hid hq
          clear p1 p2 hR hq
          go_wp2_with fail
          refine (node_rd w4 E st4 5 noText v3 v1 H4.out (by decide)).mono ?_
          rintro e w5 ⟨he, p1, p2⟩
          have hR := HR.out
          clear HR
          try simp only [nodeK] at hR
          have hq := (nodeP_ext st4 5 noText v3 v1).2
          generalize nodeP st4 5 noText v3 v1 = r at he p1 hR hq
          obtain ⟨v5, st5⟩ := r
          simp only at he p1 hR hq
          subst he
          have H5 := Lib.hid p1
          have F5 := Lib.hid (F4.out.trans p2 (fun _ _ h => h))
          have HR := Lib.hid hR
          have I5 := Lib.hid hq
          clear p1 p2 hR hq
          go_wp2_with fail
          refine (node_rd w5 E st5 3 noText v4 v5 H5.out (by decide)).mono ?_
          rintro e w6 ⟨he, p1, p2⟩
          have hR := HR.out
          clear HR
          try simp only [nodeK] at hR
          have hq := (nodeP_ext st5 3 noText v4 v5).2
          generalize nodeP st5 3 noText v4 v5 = r at he p1 hR hq
          obtain ⟨v6, st6⟩ := r
          simp only at he p1 hR hq
          subst he
          have H6 := Lib.hid p1
          have F6 := Lib.hid (F5.out.trans p2 (fun _ _ h => h))
          have HR := Lib.hid hR
          have I6 := Lib.hid hq
          clear p1 p2 hR hq
          go_wp2_with fail
          have hR := HR.out
          subst hR
          go_ret
          exact ⟨rfl, H6.out, F6.out⟩
    · have hR := HR.out
      rw [signR, if_neg hs] at hR
      rw [SignPost, if_neg hs] at hp
      obtain ⟨rfl, hb⟩ := hp
      have H2 := Lib.hid (H1.out.below hb)
      have F2 := Lib.hid (F1.out.trans (Fr.of_below hb E.S) (fun _ _ h => h))
      have HR := Lib.hid hR
      clear hb hR hs
      go_wp2_with fail
      have hR := HR.out
      subst hR
      go_ret
      exact ⟨rfl, H2.out, F2.out⟩

set_option maxRecDepth 100000 in
set_option maxHeartbeats 4000000 in
theorem implied_step (E : Env) (f : Nat) (Hih : Hid (∀ g, g ≤ f → Ih E g)) (st : St) (w : World) (h : RD w E st) (hne : parseP E.c E.ts (f + 1) .implied st ≠ .out) :
    Calls Tryz.prog 52 #[.pointer (some ⟨E.rb, 0, none⟩)] w (RsPost w E (Value.int .i64) (parseP E.c E.ts (f + 1) .implied st)) := by
  generalize hR : parseP E.c E.ts (f + 1) .implied st = R at hne ⊢
  rw [parseP] at hR
  have H0 := Lib.hid h
  have F0 := Lib.hid (Fr.refl E.S w)
  have HR := Lib.hid hR
  have Hne := Lib.hid hne
  clear h hR hne
  have hmf : ∀ (fn : Fn) (first cap : Array Value) (w : World), (Instr.makeFunc fn first cap).run Tryz.prog w = .ok (.func fn first cap) w := fun _ _ _ _ => rfl
  go_enter Tryz.func52, Tryz.ntmps52
  go_wp2_with fail
  have hn1 : parseP E.c E.ts f (.row true) st ≠ .out := fun h => Hne.out (by have := HR.out; rw [h] at this; exact this.symm)
  refine (Ih.or (Hih.out f (Nat.le_refl _)) st w H0.out hn1).mono ?_
  intro e w1 hp
  have hR := HR.out
  clear HR hn1
  generalize hq : parseP E.c E.ts f (.row true) st = r at hp hR
  cases r with
  | out => exact hp.elim
  | bad fl rws =>
    obtain ⟨rfl, p1, p2, p3⟩ := hp
    simp only [Rs.bind] at hR
    subst hR
    exact ⟨rfl, rfl, p1, F0.out.trans p2 (fun _ _ h => h), p3⟩
  | ok v1 st1 =>
    obtain ⟨rfl, p1, p2⟩ := hp
    simp only [Rs.bind] at hR
    have H1 := Lib.hid p1
    have F1 := Lib.hid (F0.out.trans p2 (fun _ _ h => h))
    have HR := Lib.hid hR
    have I1 := Lib.hid (ext_i (parse_ext _ _ _ _ _) hq)
    clear p1 p2 hR hq
    go_wp2_with fail
    refine (sign_rd w1 E st1 sImp H1.out).mono ?_
    intro e w2 hp
    by_cases hs : isSg (tokAt E.ts st1.i) sImp = true
    · have hR := HR.out
      rw [signR, if_pos hs] at hR
      rw [SignPost, if_pos hs] at hp
      have HR := Lib.hid hR
      clear hR hs
      have hR := HR.out
      clear HR
      generalize hq : takeP E.c E.ts st1 = r at hp hR
      cases r with
      | out => exact hp.elim
      | bad fl rws =>
        obtain ⟨rfl, p1, p2, p3⟩ := hp
        simp only [Rs.bind] at hR
        subst hR
        exact ⟨rfl, rfl, p1, F1.out.trans p2 (fun _ _ h => h), p3⟩
      | ok v2 st2 =>
        obtain ⟨rfl, p1, p2⟩ := hp
        simp only [Rs.bind] at hR
        have H2 := Lib.hid p1
        have F2 := Lib.hid (F1.out.trans p2 (fun _ _ h => h))
        have HR := Lib.hid hR
        have I2 := Lib.hid (take_i hq)
        clear p1 p2 hR hq
        go_wp2_with fail
        have hn3 : parseP E.c E.ts f .implied st2 ≠ .out := fun h => Hne.out (by have := HR.out; rw [h] at this; exact this.symm)
        refine (Ih.implied (Hih.out f (Nat.le_refl _)) st2 w2 H2.out hn3).mono ?_
        intro e w3 hp
        have hR := HR.out
        clear HR hn3
        generalize hq : parseP E.c E.ts f .implied st2 = r at hp hR
        cases r with
        | out => exact hp.elim
        | bad fl rws =>
          obtain ⟨rfl, p1, p2, p3⟩ := hp
          simp only [Rs.bind] at hR
          subst hR
          exact ⟨rfl, rfl, p1, F2.out.trans p2 (fun _ _ h => h), p3⟩
        | ok v3 st3 =>
          obtain ⟨rfl, p1, p2⟩ := hp
          simp only [Rs.bind] at hR
          have H3 := Lib.hid p1
          have F3 := Lib.hid (F2.out.trans p2 (fun _ _ h => h))
          have HR := Lib.hid hR
          have I3 := Lib.hid (ext_i (parse_ext _ _ _ _ _) hq)
          clear p1 p2 hR hq
          go_wp2_with fail
          refine (node_rd w3 E st3 5 noText v1 v3 H3.out (by decide)).mono ?_
          rintro e w4 ⟨he, p1, p2⟩
          have hR := HR.out
          clear HR
          try simp only [nodeK] at hR
          have hq := (nodeP_ext st3 5 noText v1 v3).2
          generalize nodeP st3 5 noText v1 v3 = r at he p1 hR hq
          obtain ⟨v4, st4⟩ := r
          simp only at he p1 hR hq
          subst he
          have H4 := Lib.hid p1
          have F4 := Lib.hid (F3.out.trans p2 (fun _ _ h => h))
          have HR := Lib.hid hR
          have I4 := Lib.hid hq
          clear p1 p2 hR hq
          go_wp2_with fail
          have hR := HR.out
          subst hR
          go_ret
          exact ⟨rfl, H4.out, F4.out⟩
    · have hR := HR.out
      rw [signR, if_neg hs] at hR
      rw [SignPost, if_neg hs] at hp
      obtain ⟨rfl, hb⟩ := hp
      have H2 := Lib.hid (H1.out.below hb)
      have F2 := Lib.hid (F1.out.trans (Fr.of_below hb E.S) (fun _ _ h => h))
      have HR := Lib.hid hR
      clear hb hR hs
      go_wp2_with fail
      have hR := HR.out
      subst hR
      go_ret
      exact ⟨rfl, H2.out, F2.out⟩

set_option maxRecDepth 100000 in
set_option maxHeartbeats 4000000 in
theorem row_or (E : Env) (f : Nat) (Hih : Hid (∀ g, g ≤ f → Ih E g)) (st : St) (w : World) (h : RD w E st) (hne : parseP E.c E.ts (f + 1) (.row true) st ≠ .out) :
    Calls Tryz.prog 63 #[.pointer (some ⟨E.rb, 0, none⟩), .string sOr, .func (.func 64) #[.pointer (some ⟨E.rb, 0, none⟩)] #[], .int .i64 4] w (RsPost w E (Value.int .i64) (parseP E.c E.ts (f + 1) (.row true) st)) := by
  generalize hR : parseP E.c E.ts (f + 1) (.row true) st = R at hne ⊢
  rw [parseP] at hR
  have H0 := Lib.hid h
  have F0 := Lib.hid (Fr.refl E.S w)
  have HR := Lib.hid hR
  have Hne := Lib.hid hne
  clear h hR hne
  have hlv : lvM true = (.row false) := rfl
  rw [hlv] at HR
  clear hlv
  go_enter Tryz.func63, Tryz.ntmps63
  go_wp2_with fail
  have hn1 : parseP E.c E.ts f (.row false) st ≠ .out := fun h => Hne.out (by have := HR.out; rw [h] at this; exact this.symm)
  refine (Ih.both (Hih.out f (Nat.le_refl _)) st w H0.out hn1).mono ?_
  intro e w1 hp
  have hR := HR.out
  clear HR hn1
  generalize hq : parseP E.c E.ts f (.row false) st = r at hp hR
  cases r with
  | out => exact hp.elim
  | bad fl rws =>
    obtain ⟨rfl, p1, p2, p3⟩ := hp
    simp only [Rs.bind] at hR
    subst hR
    exact ⟨rfl, rfl, p1, F0.out.trans p2 (fun _ _ h => h), p3⟩
  | ok v1 st1 =>
    obtain ⟨rfl, p1, p2⟩ := hp
    simp only [Rs.bind] at hR
    have H1 := Lib.hid p1
    have F1 := Lib.hid (F0.out.trans p2 (fun _ _ h => h))
    have HR := Lib.hid hR
    have I1 := Lib.hid (ext_i (parse_ext _ _ _ _ _) hq)
    clear p1 p2 hR hq
    go_wp2_with fail
    go_loopw [9] (fun v wr => ∃ (a : Int) (s : St) (g : Nat), v = .int .i64 a ∧ RD wr E s ∧ Fr E.S w wr ∧ g ≤ f ∧ parseP E.c E.ts g (.rowL true a) s = R) (fun _ wr => match wr.cell? ⟨E.rb, 2, none⟩ with | some (.int _ x) => E.ts.length - x.toNat | _ => 0)
    case atStart => exact ⟨v1, st1, f, rfl, H1.out, F1.out, Nat.le_refl _, HR.out⟩
    case round =>
      obtain ⟨v2, st2, g, rfl, p1, p2, hg, hR⟩ := hrel
      obtain ⟨w2, rfl⟩ : ∃ w2 : World, w2 = wr := ⟨_, rfl⟩
      have H2 := Lib.hid p1
      have F2 := Lib.hid p2
      obtain ⟨g, rfl⟩ : ∃ g', g = g' + 1 := by
        cases g with
        | zero => exact absurd hR.symm Hne.out
        | succ g => exact ⟨g, rfl⟩
      rw [parseP] at hR
      have HR : Hid (signR E.c E.ts st2 sOr (.ok v2) (fun st => (parseP E.c E.ts g (.row false) st).bind fun b st => nodeK st 4 v2 b fun x st => parseP E.c E.ts g (.rowL true x) st) = R) := Lib.hid hR
      have hm : (match w2.cell? ⟨E.rb, 2, none⟩ with | some (.int _ x) => E.ts.length - x.toNat | _ => 0) = E.ts.length - st2.i := by rw [H2.out.cells.2.2.1]; simp
      have Hm := Lib.hid hm
      clear p1 p2 hR hm
      go_wp2_with fail
      refine (sign_rd w2 E st2 sOr H2.out).mono ?_
      intro e w3 hp
      by_cases hs : isSg (tokAt E.ts st2.i) sOr = true
      · have hR := HR.out
        rw [signR, if_pos hs] at hR
        rw [SignPost, if_pos hs] at hp
        have HR := Lib.hid hR
        clear hR hs
        have hR := HR.out
        clear HR
        generalize hq : takeP E.c E.ts st2 = r at hp hR
        cases r with
        | out => exact hp.elim
        | bad fl rws =>
          obtain ⟨rfl, p1, p2, p3⟩ := hp
          simp only [Rs.bind] at hR
          subst hR
          exact ⟨rfl, rfl, p1, F2.out.trans p2 (fun _ _ h => h), p3⟩
        | ok v3 st3 =>
          obtain ⟨rfl, p1, p2⟩ := hp
          simp only [Rs.bind] at hR
          have H3 := Lib.hid p1
          have F3 := Lib.hid (F2.out.trans p2 (fun _ _ h => h))
          have HR := Lib.hid hR
          have I3 := Lib.hid (take_i hq)
          clear p1 p2 hR hq
          go_wp2_with fail
          have hn4 : parseP E.c E.ts g (.row false) st3 ≠ .out := fun h => Hne.out (by have := HR.out; rw [h] at this; exact this.symm)
          refine (Ih.both (Hih.out g (by omega)) st3 w3 H3.out hn4).mono ?_
          intro e w4 hp
          have hR := HR.out
          clear HR hn4
          generalize hq : parseP E.c E.ts g (.row false) st3 = r at hp hR
          cases r with
          | out => exact hp.elim
          | bad fl rws =>
            obtain ⟨rfl, p1, p2, p3⟩ := hp
            simp only [Rs.bind] at hR
            subst hR
            exact ⟨rfl, rfl, p1, F3.out.trans p2 (fun _ _ h => h), p3⟩
          | ok v4 st4 =>
            obtain ⟨rfl, p1, p2⟩ := hp
            simp only [Rs.bind] at hR
            have H4 := Lib.hid p1
            have F4 := Lib.hid (F3.out.trans p2 (fun _ _ h => h))
            have HR := Lib.hid hR
            have I4 := Lib.hid (ext_i (parse_ext _ _ _ _ _) hq)
            clear p1 p2 hR hq
            go_wp2_with fail
            refine (node_rd w4 E st4 4 noText v2 v4 H4.out (by decide)).mono ?_
            rintro e w5 ⟨he, p1, p2⟩
            have hR := HR.out
            clear HR
            try simp only [nodeK] at hR
            have hq := (nodeP_ext st4 4 noText v2 v4).2
            generalize nodeP st4 4 noText v2 v4 = r at he p1 hR hq
            obtain ⟨v5, st5⟩ := r
            simp only at he p1 hR hq
            subst he
            have H5 := Lib.hid p1
            have F5 := Lib.hid (F4.out.trans p2 (fun _ _ h => h))
            have HR := Lib.hid hR
            have I5 := Lib.hid hq
            clear p1 p2 hR hq
            go_wp2_with fail
            have i3 := I3.out
            have i4 := I4.out
            have i5 := I5.out
            have i6 := H5.out.i
            have i7 := Hm.out
            refine ⟨⟨v5, st5, g, rfl, H5.out, F5.out, by omega, HR.out⟩, ?_⟩
            rw [i7, H5.out.cells.2.2.1]
            simp
            omega
      · have hR := HR.out
        rw [signR, if_neg hs] at hR
        rw [SignPost, if_neg hs] at hp
        obtain ⟨rfl, hb⟩ := hp
        have H3 := Lib.hid (H2.out.below hb)
        have F3 := Lib.hid (F2.out.trans (Fr.of_below hb E.S) (fun _ _ h => h))
        have HR := Lib.hid hR
        clear hb hR hs
        go_wp2_with fail
        have hR := HR.out
        subst hR
        go_ret
        exact ⟨rfl, H3.out, F3.out⟩

set_option maxRecDepth 100000 in
set_option maxHeartbeats 4000000 in
theorem row_and (E : Env) (f : Nat) (Hih : Hid (∀ g, g ≤ f → Ih E g)) (st : St) (w : World) (h : RD w E st) (hne : parseP E.c E.ts (f + 1) (.row false) st ≠ .out) :
    Calls Tryz.prog 63 #[.pointer (some ⟨E.rb, 0, none⟩), .string sAnd, .func (.func 79) #[.pointer (some ⟨E.rb, 0, none⟩)] #[], .int .i64 3] w (RsPost w E (Value.int .i64) (parseP E.c E.ts (f + 1) (.row false) st)) := by
  generalize hR : parseP E.c E.ts (f + 1) (.row false) st = R at hne ⊢
  rw [parseP] at hR
  have H0 := Lib.hid h
  have F0 := Lib.hid (Fr.refl E.S w)
  have HR := Lib.hid hR
  have Hne := Lib.hid hne
  clear h hR hne
  have hlv : lvM false = .single := rfl
  rw [hlv] at HR
  clear hlv
  go_enter Tryz.func63, Tryz.ntmps63
  go_wp2_with fail
  have hn1 : parseP E.c E.ts f .single st ≠ .out := fun h => Hne.out (by have := HR.out; rw [h] at this; exact this.symm)
  refine (Ih.single (Hih.out f (Nat.le_refl _)) st w H0.out hn1).mono ?_
  intro e w1 hp
  have hR := HR.out
  clear HR hn1
  generalize hq : parseP E.c E.ts f .single st = r at hp hR
  cases r with
  | out => exact hp.elim
  | bad fl rws =>
    obtain ⟨rfl, p1, p2, p3⟩ := hp
    simp only [Rs.bind] at hR
    subst hR
    exact ⟨rfl, rfl, p1, F0.out.trans p2 (fun _ _ h => h), p3⟩
  | ok v1 st1 =>
    obtain ⟨rfl, p1, p2⟩ := hp
    simp only [Rs.bind] at hR
    have H1 := Lib.hid p1
    have F1 := Lib.hid (F0.out.trans p2 (fun _ _ h => h))
    have HR := Lib.hid hR
    have I1 := Lib.hid (ext_i (parse_ext _ _ _ _ _) hq)
    clear p1 p2 hR hq
    go_wp2_with fail
    go_loopw [9] (fun v wr => ∃ (a : Int) (s : St) (g : Nat), v = .int .i64 a ∧ RD wr E s ∧ Fr E.S w wr ∧ g ≤ f ∧ parseP E.c E.ts g (.rowL false a) s = R) (fun _ wr => match wr.cell? ⟨E.rb, 2, none⟩ with | some (.int _ x) => E.ts.length - x.toNat | _ => 0)
    case atStart => exact ⟨v1, st1, f, rfl, H1.out, F1.out, Nat.le_refl _, HR.out⟩
    case round =>
      obtain ⟨v2, st2, g, rfl, p1, p2, hg, hR⟩ := hrel
      obtain ⟨w2, rfl⟩ : ∃ w2 : World, w2 = wr := ⟨_, rfl⟩
      have H2 := Lib.hid p1
      have F2 := Lib.hid p2
      obtain ⟨g, rfl⟩ : ∃ g', g = g' + 1 := by
        cases g with
        | zero => exact absurd hR.symm Hne.out
        | succ g => exact ⟨g, rfl⟩
      rw [parseP] at hR
      have HR : Hid (signR E.c E.ts st2 sAnd (.ok v2) (fun st => (parseP E.c E.ts g .single st).bind fun b st => nodeK st 3 v2 b fun x st => parseP E.c E.ts g (.rowL false x) st) = R) := Lib.hid hR
      have hm : (match w2.cell? ⟨E.rb, 2, none⟩ with | some (.int _ x) => E.ts.length - x.toNat | _ => 0) = E.ts.length - st2.i := by rw [H2.out.cells.2.2.1]; simp
      have Hm := Lib.hid hm
      clear p1 p2 hR hm
      go_wp2_with fail
      refine (sign_rd w2 E st2 sAnd H2.out).mono ?_
      intro e w3 hp
      by_cases hs : isSg (tokAt E.ts st2.i) sAnd = true
      · have hR := HR.out
        rw [signR, if_pos hs] at hR
        rw [SignPost, if_pos hs] at hp
        have HR := Lib.hid hR
        clear hR hs
        have hR := HR.out
        clear HR
        generalize hq : takeP E.c E.ts st2 = r at hp hR
        cases r with
        | out => exact hp.elim
        | bad fl rws =>
          obtain ⟨rfl, p1, p2, p3⟩ := hp
          simp only [Rs.bind] at hR
          subst hR
          exact ⟨rfl, rfl, p1, F2.out.trans p2 (fun _ _ h => h), p3⟩
        | ok v3 st3 =>
          obtain ⟨rfl, p1, p2⟩ := hp
          simp only [Rs.bind] at hR
          have H3 := Lib.hid p1
          have F3 := Lib.hid (F2.out.trans p2 (fun _ _ h => h))
          have HR := Lib.hid hR
          have I3 := Lib.hid (take_i hq)
          clear p1 p2 hR hq
          go_wp2_with fail
          have hn4 : parseP E.c E.ts g .single st3 ≠ .out := fun h => Hne.out (by have := HR.out; rw [h] at this; exact this.symm)
          refine (Ih.single (Hih.out g (by omega)) st3 w3 H3.out hn4).mono ?_
          intro e w4 hp
          have hR := HR.out
          clear HR hn4
          generalize hq : parseP E.c E.ts g .single st3 = r at hp hR
          cases r with
          | out => exact hp.elim
          | bad fl rws =>
            obtain ⟨rfl, p1, p2, p3⟩ := hp
            simp only [Rs.bind] at hR
            subst hR
            exact ⟨rfl, rfl, p1, F3.out.trans p2 (fun _ _ h => h), p3⟩
          | ok v4 st4 =>
            obtain ⟨rfl, p1, p2⟩ := hp
            simp only [Rs.bind] at hR
            have H4 := Lib.hid p1
            have F4 := Lib.hid (F3.out.trans p2 (fun _ _ h => h))
            have HR := Lib.hid hR
            have I4 := Lib.hid (ext_i (parse_ext _ _ _ _ _) hq)
            clear p1 p2 hR hq
            go_wp2_with fail
            refine (node_rd w4 E st4 3 noText v2 v4 H4.out (by decide)).mono ?_
            rintro e w5 ⟨he, p1, p2⟩
            have hR := HR.out
            clear HR
            try simp only [nodeK] at hR
            have hq := (nodeP_ext st4 3 noText v2 v4).2
            generalize nodeP st4 3 noText v2 v4 = r at he p1 hR hq
            obtain ⟨v5, st5⟩ := r
            simp only at he p1 hR hq
            subst he
            have H5 := Lib.hid p1
            have F5 := Lib.hid (F4.out.trans p2 (fun _ _ h => h))
            have HR := Lib.hid hR
            have I5 := Lib.hid hq
            clear p1 p2 hR hq
            go_wp2_with fail
            have i3 := I3.out
            have i4 := I4.out
            have i5 := I5.out
            have i6 := H5.out.i
            have i7 := Hm.out
            refine ⟨⟨v5, st5, g, rfl, H5.out, F5.out, by omega, HR.out⟩, ?_⟩
            rw [i7, H5.out.cells.2.2.1]
            simp
            omega
      · have hR := HR.out
        rw [signR, if_neg hs] at hR
        rw [SignPost, if_neg hs] at hp
        obtain ⟨rfl, hb⟩ := hp
        have H3 := Lib.hid (H2.out.below hb)
        have F3 := Lib.hid (F2.out.trans (Fr.of_below hb E.S) (fun _ _ h => h))
        have HR := Lib.hid hR
        clear hb hR hs
        go_wp2_with fail
        have hR := HR.out
        subst hR
        go_ret
        exact ⟨rfl, H3.out, F3.out⟩

set_option maxRecDepth 100000 in
set_option maxHeartbeats 4000000 in
theorem both_step (E : Env) (f : Nat) (Hih : Hid (∀ g, g ≤ f → Ih E g)) (st : St) (w : World) (h : RD w E st) (hne : parseP E.c E.ts (f + 1) (.row false) st ≠ .out) :
    Calls Tryz.prog 64 #[.pointer (some ⟨E.rb, 0, none⟩)] w (RsPost w E (Value.int .i64) (parseP E.c E.ts (f + 1) (.row false) st)) := by
  have Hrow := Lib.hid (row_and E f Hih st w h hne)
  have hmf : ∀ (fn : Fn) (first cap : Array Value) (w : World), (Instr.makeFunc fn first cap).run Tryz.prog w = .ok (.func fn first cap) w := fun _ _ _ _ => rfl
  generalize hR : parseP E.c E.ts (f + 1) (.row false) st = R at hne Hrow ⊢
  have F0 := Lib.hid (Fr.refl E.S w)
  clear h hne hR
  go_enter Tryz.func64, Tryz.ntmps64
  go_wp2_with fail
  refine Hrow.out.mono ?_
  intro e w1 hp
  cases R with
  | out => exact hp.elim
  | bad fl rws =>
    obtain ⟨rfl, p1, p2, p3⟩ := hp
    exact ⟨rfl, rfl, p1, p2, p3⟩
  | ok v1 st1 =>
    obtain ⟨rfl, p1, p2⟩ := hp
    have H1 := Lib.hid p1
    have F1 := Lib.hid p2
    clear p1 p2
    go_wp2_with fail
    go_ret
    exact ⟨rfl, H1.out, F1.out⟩

end Go.Proofs.YtglnmkdlcbkpeaaGreatDoor
