/-
  Package syntax: the reader's whole recursion and its deferred closure.
-/
import Derived.Test.YtglnmkdlcbkpeaaGreatDoorGQ
import Derived.Defers
import Derived.Recover
/- syntax: single. (Printed by wip/tools/genph.py.) -/
set_option linter.unusedVariables false
set_option linter.unusedSimpArgs false
namespace Go.Proofs.YtglnmkdlcbkpeaaGreatDoor
open Go.RowKit

theorem tok_lt {ts : List Tok} {i : Nat} {k : Int} (h : (tokAt ts i).k = k) (hk : k ≠ 0) : i < ts.length := by
  rcases Nat.lt_or_ge i ts.length with h1 | h1
  · exact h1
  · have : tokAt ts i = zeroTok := by simp [tokAt, h1]
    rw [this] at h
    exact absurd h.symm hk

set_option maxRecDepth 100000 in
set_option maxHeartbeats 4000000 in
theorem single_step (E : Env) (f : Nat) (Hih : Hid (∀ g, g ≤ f → Ih E g)) (st : St) (w : World) (h : RD w E st) (hne : parseP E.c E.ts (f + 1) .single st ≠ .out) :
    Calls Tryz.prog 79 #[.pointer (some ⟨E.rb, 0, none⟩)] w (RsPost w E (Value.int .i64) (parseP E.c E.ts (f + 1) .single st)) := by
  generalize hR : parseP E.c E.ts (f + 1) .single st = R at hne ⊢
  rw [parseP] at hR
  simp only [singleP] at hR
  have H0 := Lib.hid h
  have F0 := Lib.hid (Fr.refl E.S w)
  have HR := Lib.hid hR
  have Hne := Lib.hid hne
  clear h hR hne
  go_enter Tryz.func79, Tryz.ntmps79
  go_wp2_with fail
  refine (now_any w E st H0.out).mono ?_
  rintro e w1 ⟨rfl, hb⟩
  have HB1 := Lib.hid hb
  have hs1 := hb.size
  clear hb
  simp only [Tok.val]
  go_wp2_with fail
  generalize hW : World.alloc _ _ = w2
  have hb2 : Below w.heap.size w w2 := by rw [← hW]; exact HB1.out.alloc hs1 _
  have hT2 : w2.heap[w1.heap.size]? = some (.cells #[.int .i64 (tokAt E.ts st.i).k, .string (tokAt E.ts st.i).s, .int .i64 (tokAt E.ts st.i).n, .int .i64 (tokAt E.ts st.i).l, .int .i64 (tokAt E.ts st.i).c, .int .i64 (tokAt E.ts st.i).o] 73 (0, 0)) := by rw [← hW]; exact blk_new w1 _
  have hl2 := blk_lt hT2
  have T2 := Lib.hid hT2
  have H2 := Lib.hid (H0.out.below hb2)
  have F2 := Lib.hid (Fr.of_below hb2 E.S)
  clear hb2 hT2 hW
  refine (sign_rd w2 E st sNot H2.out).mono ?_
  intro e w3 hp
  by_cases hs : isSg (tokAt E.ts st.i) sNot = true
  · have hR := HR.out
    rw [if_pos hs] at hR
    rw [SignPost, if_pos hs] at hp
    have HR := Lib.hid hR
    clear hR hs
    have hR := HR.out
    clear HR
    generalize hq : takeP E.c E.ts st = r at hp hR
    cases r with
    | out => exact hp.elim
    | bad fl rws =>
      obtain ⟨rfl, p1, p2, p3⟩ := hp
      simp only [Rs.bind] at hR
      subst hR
      exact ⟨rfl, rfl, p1, F2.out.trans p2 (fun _ _ h => h), p3⟩
    | ok v3 st3 =>
      obtain ⟨rfl, p1, p2⟩ := hp
      simp only [Rs.bind] at hR
      have H3 := Lib.hid p1
      have F3 := Lib.hid (F2.out.trans p2 (fun _ _ h => h))
      have HR := Lib.hid hR
      have I3 := Lib.hid (take_i hq)
      clear p1 p2 hR hq
      go_wp2_with fail
      have hn4 : parseP E.c E.ts f .single st3 ≠ .out := fun h => Hne.out (by have := HR.out; rw [h] at this; exact this.symm)
      refine (Ih.single (Hih.out f (Nat.le_refl _)) st3 w3 H3.out hn4).mono ?_
      intro e w4 hp
      have hR := HR.out
      clear HR hn4
      generalize hq : parseP E.c E.ts f .single st3 = r at hp hR
      cases r with
      | out => exact hp.elim
      | bad fl rws =>
        obtain ⟨rfl, p1, p2, p3⟩ := hp
        simp only [Rs.bind] at hR
        subst hR
        exact ⟨rfl, rfl, p1, F3.out.trans p2 (fun _ _ h => h), p3⟩
      | ok v4 st4 =>
        obtain ⟨rfl, p1, p2⟩ := hp
        simp only [Rs.bind] at hR
        have H4 := Lib.hid p1
        have F4 := Lib.hid (F3.out.trans p2 (fun _ _ h => h))
        have HR := Lib.hid hR
        have I4 := Lib.hid (ext_i (parse_ext _ _ _ _ _) hq)
        clear p1 p2 hR hq
        go_wp2_with fail
        refine (node_rd w4 E st4 2 noText 0 0 H4.out (by decide)).mono ?_
        rintro e w5 ⟨he, p1, p2⟩
        have hR := HR.out
        clear HR
        try simp only [nodeK] at hR
        have hq := (nodeP_ext st4 2 noText 0 0).2
        generalize nodeP st4 2 noText 0 0 = r at he p1 hR hq
        obtain ⟨v5, st5⟩ := r
        simp only at he p1 hR hq
        subst he
        have H5 := Lib.hid p1
        have F5 := Lib.hid (F4.out.trans p2 (fun _ _ h => h))
        have HR := Lib.hid hR
        have I5 := Lib.hid hq
        clear p1 p2 hR hq
        go_wp2_with fail
        refine (node_rd w5 E st5 5 noText v4 v5 H5.out (by decide)).mono ?_
        rintro e w6 ⟨he, p1, p2⟩
        have hR := HR.out
        clear HR
        try simp only [nodeK] at hR
        have hq := (nodeP_ext st5 5 noText v4 v5).2
        generalize nodeP st5 5 noText v4 v5 = r at he p1 hR hq
        obtain ⟨v6, st6⟩ := r
        simp only at he p1 hR hq
        subst he
        have H6 := Lib.hid p1
        have F6 := Lib.hid (F5.out.trans p2 (fun _ _ h => h))
        have HR := Lib.hid hR
        have I6 := Lib.hid hq
        clear p1 p2 hR hq
        go_wp2_with fail
        have hR := HR.out
        subst hR
        go_ret
        exact ⟨rfl, H6.out, F6.out⟩
  · have hR := HR.out
    rw [if_neg hs] at hR
    rw [SignPost, if_neg hs] at hp
    obtain ⟨rfl, hb⟩ := hp
    have H3 := Lib.hid (H2.out.below hb)
    have F3 := Lib.hid (F2.out.trans (Fr.of_below hb E.S) (fun _ _ h => h))
    have T3 := Lib.hid (blk_below' T2.out hb)
    have HR := Lib.hid hR
    have hl3 := blk_lt T3.out
    clear hb hR hs
    have f0 : w3.cell? ⟨w1.heap.size, 0, none⟩ = some (.int .i64 (tokAt E.ts st.i).k) := (blk_cell T3.out 0).trans rfl
    have f1 : w3.cell? ⟨w1.heap.size, 1, none⟩ = some (.string (tokAt E.ts st.i).s) := (blk_cell T3.out 1).trans rfl
    have hrb : E.rb < w.heap.size := Nat.lt_of_lt_of_le H0.out.rbN H0.out.size
    by_cases hs : isSg (tokAt E.ts st.i) sOpen = true
    · have hR := HR.out
      rw [if_pos hs] at hR
      have hlt := isSg_lt hs
      have hk : (tokAt E.ts st.i).k = 3 ∧ (tokAt E.ts st.i).s = sOpen := by simpa [isSg, sameB_eq] using hs
      rw [hk.1] at f0
      rw [hk.2, sOpen] at f1
      have d4 := H3.out.cells.2.2.2.2.1
      have r4 : w3.frozen? ⟨E.rb, 4, none⟩ = false := blk_frozen H3.out.rd 4
      clear hk hs HR
      by_cases hn : st.nest = 1024
      · rw [if_pos hn] at hR
        have HR := Lib.hid hR
        have hn2 : ((st.nest : Int) == 1024) = true := by rw [hn]; rfl
        clear hR
        go_wp2_with fail
        refine (fail_any w3 E st 41 H3.out).mono ?_
        rintro e w' ⟨rfl, hb⟩
        have hR := HR.out
        subst hR
        exact ⟨rfl, RsPost.pre (take_bad _ _ E st _ 41 H3.out hb) F3.out⟩
      · rw [if_neg hn] at hR
        have HR := Lib.hid hR
        have hn2 : ((st.nest : Int) == 1024) = false := by simp; omega
        have hn3 := H3.out.nest
        clear hR
        go_wp2_with fail
        generalize hW : World.setCell _ _ _ = w4
        have hF : Fr (fun k => k = E.rb) w3 w4 := by rw [← hW]; exact (Fr.refl _ w3).setCell _ _ (fun _ => rfl)
        have hF2 : Fr E.S w3 w4 := hF.mono (fun i _ e => .inl e)
        have H4 : Hid (RD w4 E { st with nest := st.nest + 1 }) := Lib.hid (H3.out.fr hF2 (by rw [← hW]; exact blk_set H3.out.rd 4 _) (H3.out.tabS hF) H3.out.rows H3.out.nodup H3.out.i H3.out.names (by show st.nest + 1 ≤ 1024; omega))
        have F4 := Lib.hid (F3.out.trans hF2 (fun _ _ h => h))
        clear hF hF2 hW d4 r4 f0 f1
        refine (take_any w4 E { st with nest := st.nest + 1 } H4.out hlt).mono ?_
        intro e w5 hp
        have hR := HR.out
        clear HR
        generalize hq : takeP E.c E.ts { st with nest := st.nest + 1 } = r at hp hR
        cases r with
        | out => exact hp.elim
        | bad fl rws =>
          obtain ⟨rfl, p1, p2, p3⟩ := hp
          simp only [Rs.bind] at hR
          subst hR
          exact ⟨rfl, rfl, p1, F4.out.trans p2 (fun _ _ h => h), p3⟩
        | ok v5 st5 =>
          obtain ⟨rfl, p1, p2⟩ := hp
          simp only [Rs.bind] at hR
          have H5 := Lib.hid p1
          have F5 := Lib.hid (F4.out.trans p2 (fun _ _ h => h))
          have HR := Lib.hid hR
          have I5 := Lib.hid (nst_ok (hq ▸ nst_take E.c E.ts { st with nest := st.nest + 1 }) rfl)
          clear p1 p2 hR hq
          go_wp2_with fail
          have hn6 : parseP E.c E.ts f .formula st5 ≠ .out := fun h => Hne.out (by have := HR.out; rw [h] at this; exact this.symm)
          refine (Ih.formula (Hih.out f (Nat.le_refl _)) st5 w5 H5.out hn6).mono ?_
          intro e w6 hp
          have hR := HR.out
          clear HR hn6
          generalize hq : parseP E.c E.ts f .formula st5 = r at hp hR
          cases r with
          | out => exact hp.elim
          | bad fl rws =>
            obtain ⟨rfl, p1, p2, p3⟩ := hp
            simp only [Rs.bind] at hR
            subst hR
            exact ⟨rfl, rfl, p1, F5.out.trans p2 (fun _ _ h => h), p3⟩
          | ok v6 st6 =>
            obtain ⟨rfl, p1, p2⟩ := hp
            simp only [Rs.bind] at hR
            have H6 := Lib.hid p1
            have F6 := Lib.hid (F5.out.trans p2 (fun _ _ h => h))
            have HR := Lib.hid hR
            have I6 := Lib.hid (nst_ok (hq ▸ parse_nest E.c E.ts f .formula st5) rfl)
            clear p1 p2 hR hq
            go_wp2_with fail
            refine (sign_rd w6 E st6 sShut H6.out).mono ?_
            intro e w7 hp
            by_cases hs : isSg (tokAt E.ts st6.i) sShut = true
            · have hR := HR.out
              rw [signR, if_pos hs] at hR
              rw [SignPost, if_pos hs] at hp
              have HR := Lib.hid hR
              clear hR hs
              have hR := HR.out
              clear HR
              generalize hq : takeP E.c E.ts st6 = r at hp hR
              cases r with
              | out => exact hp.elim
              | bad fl rws =>
                obtain ⟨rfl, p1, p2, p3⟩ := hp
                simp only [Rs.bind] at hR
                subst hR
                exact ⟨rfl, rfl, p1, F6.out.trans p2 (fun _ _ h => h), p3⟩
              | ok v7 st7 =>
                obtain ⟨rfl, p1, p2⟩ := hp
                simp only [Rs.bind] at hR
                have H7 := Lib.hid p1
                have F7 := Lib.hid (F6.out.trans p2 (fun _ _ h => h))
                have HR := Lib.hid hR
                have I7 := Lib.hid (nst_ok (hq ▸ nst_take E.c E.ts st6) rfl)
                clear p1 p2 hR hq
                have hn7 : st7.nest = st.nest + 1 := by
                  have h5 := I5.out
                  have h6 := I6.out
                  have h7 := I7.out
                  try simp only at h5
                  omega
                have hn8 := H7.out.nest
                have hn9 : (0 : Int) ≤ (st7.nest : Int) - 1 := by omega
                have hn0 : ((st7.nest - 1 : Nat) : Int) = (st7.nest : Int) - 1 := by omega
                have d4 := H7.out.cells.2.2.2.2.1
                have r4 : w7.frozen? ⟨E.rb, 4, none⟩ = false := blk_frozen H7.out.rd 4
                have Hn0 := Lib.hid hn0
                clear hn0 hn7
                go_wp2_with fail
                generalize hW : World.setCell _ _ _ = w8
                have hF : Fr (fun k => k = E.rb) w7 w8 := by rw [← hW]; exact (Fr.refl _ w7).setCell _ _ (fun _ => rfl)
                have hF2 : Fr E.S w7 w8 := hF.mono (fun i _ e => .inl e)
                have H8 : Hid (RD w8 E { st7 with nest := st7.nest - 1 }) := Lib.hid (H7.out.fr hF2 (by rw [← hW]; show _ = some (Obj.cells #[_, _, _, _, .int .i64 ((st7.nest - 1 : Nat) : Int), _, _] _ _); rw [Hn0.out]; exact blk_set H7.out.rd 4 _) (H7.out.tabS hF) H7.out.rows H7.out.nodup H7.out.i H7.out.names (by show st7.nest - 1 ≤ 1024; omega))
                have F8 := Lib.hid (F7.out.trans hF2 (fun _ _ h => h))
                have hR := HR.out
                subst hR
                go_ret
                exact ⟨rfl, H8.out, F8.out⟩
            · have hR := HR.out
              rw [signR, if_neg hs] at hR
              rw [SignPost, if_neg hs] at hp
              obtain ⟨rfl, hb⟩ := hp
              have H7 := Lib.hid (H6.out.below hb)
              have F7 := Lib.hid (F6.out.trans (Fr.of_below hb E.S) (fun _ _ h => h))
              have HR := Lib.hid hR
              clear hb hR hs
              go_wp2_with fail
              refine (fail_any w7 E st6 41 H7.out).mono ?_
              rintro e w' ⟨rfl, hb⟩
              have hR := HR.out
              subst hR
              exact ⟨rfl, RsPost.pre (take_bad _ _ E st6 _ 41 H7.out hb) F7.out⟩
    · have hR := HR.out
      rw [if_neg hs] at hR
      have hk : ¬ ((tokAt E.ts st.i).k = 3 ∧ (tokAt E.ts st.i).s = sOpen) := fun h => hs (by simp [isSg, sameB_eq, h.1, h.2])
      clear hs HR
      by_cases hk1 : (tokAt E.ts st.i).k = 1
      · have hlt := tok_lt hk1 (by decide)
        rw [hk1] at f0
        clear hk
        by_cases hs1 : (tokAt E.ts st.i).s = sTrue
        · rw [if_pos (by simp [hk1, hs1, sameB_eq])] at hR
          have HR := Lib.hid hR
          rw [hs1, sTrue] at f1
          clear hR
          go_wp2_with fail
          refine (take_any w3 E st H3.out hlt).mono ?_
          intro e w4 hp
          have hR := HR.out
          clear HR
          generalize hq : takeP E.c E.ts st = r at hp hR
          cases r with
          | out => exact hp.elim
          | bad fl rws =>
            obtain ⟨rfl, p1, p2, p3⟩ := hp
            simp only [Rs.bind] at hR
            subst hR
            exact ⟨rfl, rfl, p1, F3.out.trans p2 (fun _ _ h => h), p3⟩
          | ok v4 st4 =>
            obtain ⟨rfl, p1, p2⟩ := hp
            simp only [Rs.bind] at hR
            have H4 := Lib.hid p1
            have F4 := Lib.hid (F3.out.trans p2 (fun _ _ h => h))
            have HR := Lib.hid hR
            have I4 := Lib.hid (take_i hq)
            clear p1 p2 hR hq
            go_wp2_with fail
            refine (node_rd w4 E st4 2 noText 0 0 H4.out (by decide)).mono ?_
            rintro e w5 ⟨he, p1, p2⟩
            have hR := HR.out
            clear HR
            try simp only [nodeK] at hR
            have hq := (nodeP_ext st4 2 noText 0 0).2
            generalize nodeP st4 2 noText 0 0 = r at he p1 hR hq
            obtain ⟨v5, st5⟩ := r
            simp only at he p1 hR hq
            subst he
            have H5 := Lib.hid p1
            have F5 := Lib.hid (F4.out.trans p2 (fun _ _ h => h))
            have HR := Lib.hid hR
            have I5 := Lib.hid hq
            clear p1 p2 hR hq
            go_wp2_with fail
            refine (node_rd w5 E st5 5 noText v5 v5 H5.out (by decide)).mono ?_
            rintro e w6 ⟨he, p1, p2⟩
            have hR := HR.out
            clear HR
            try simp only [nodeK] at hR
            have hq := (nodeP_ext st5 5 noText v5 v5).2
            generalize nodeP st5 5 noText v5 v5 = r at he p1 hR hq
            obtain ⟨v6, st6⟩ := r
            simp only at he p1 hR hq
            subst he
            have H6 := Lib.hid p1
            have F6 := Lib.hid (F5.out.trans p2 (fun _ _ h => h))
            have HR := Lib.hid hR
            have I6 := Lib.hid hq
            clear p1 p2 hR hq
            go_wp2_with fail
            have hR := HR.out
            subst hR
            go_ret
            exact ⟨rfl, H6.out, F6.out⟩
        · rw [if_neg (by simp [hk1, hs1, sameB_eq])] at hR
          have q1 := lit_f lTrue hs1
          by_cases hs2 : (tokAt E.ts st.i).s = sFalse
          · rw [if_pos (by simp [hk1, hs2, sameB_eq])] at hR
            have HR := Lib.hid hR
            rw [hs2, sFalse] at f1
            clear hR q1 hs1
            go_wp2_with fail
            refine (take_any w3 E st H3.out hlt).mono ?_
            intro e w4 hp
            have hR := HR.out
            clear HR
            generalize hq : takeP E.c E.ts st = r at hp hR
            cases r with
            | out => exact hp.elim
            | bad fl rws =>
              obtain ⟨rfl, p1, p2, p3⟩ := hp
              simp only [Rs.bind] at hR
              subst hR
              exact ⟨rfl, rfl, p1, F3.out.trans p2 (fun _ _ h => h), p3⟩
            | ok v4 st4 =>
              obtain ⟨rfl, p1, p2⟩ := hp
              simp only [Rs.bind] at hR
              have H4 := Lib.hid p1
              have F4 := Lib.hid (F3.out.trans p2 (fun _ _ h => h))
              have HR := Lib.hid hR
              have I4 := Lib.hid (take_i hq)
              clear p1 p2 hR hq
              go_wp2_with fail
              refine (node_rd w4 E st4 2 noText 0 0 H4.out (by decide)).mono ?_
              rintro e w5 ⟨he, p1, p2⟩
              have hR := HR.out
              clear HR
              try simp only [nodeK] at hR
              have hq := (nodeP_ext st4 2 noText 0 0).2
              generalize nodeP st4 2 noText 0 0 = r at he p1 hR hq
              obtain ⟨v5, st5⟩ := r
              simp only at he p1 hR hq
              subst he
              have H5 := Lib.hid p1
              have F5 := Lib.hid (F4.out.trans p2 (fun _ _ h => h))
              have HR := Lib.hid hR
              have I5 := Lib.hid hq
              clear p1 p2 hR hq
              go_wp2_with fail
              have hR := HR.out
              subst hR
              go_ret
              exact ⟨rfl, H5.out, F5.out⟩
          · rw [if_neg (by simp [hk1, hs2, sameB_eq])] at hR
            have q2 := lit_f lFalse hs2
            have hsz : (tokAt E.ts st.i).s.size ≤ 140737488355328 := by
              have : tokAt E.ts st.i = E.ts[st.i] := by simp [tokAt, hlt]
              rw [this]
              exact H0.out.tok _ (List.getElem_mem hlt)
            have HR := Lib.hid hR
            clear hR hs1 hs2
            go_wp2_with fail
            refine (word_any (tokAt E.ts st.i).s w3 hsz).mono ?_
            rintro e w4 ⟨rfl, rfl⟩
            have hne : ¬ w1.heap.size = E.rb := by omega
            by_cases hw : wordB (tokAt E.ts st.i).s = true
            · rw [hw]
              have hR := HR.out
              rw [if_pos (by simp [hk1, hw])] at hR
              have HR := Lib.hid hR
              clear hR hw q1 q2
              go_wp2_with fail
              refine (take_fr w3 E st H3.out hlt).mono ?_
              rintro e w4 ⟨hp, hfr⟩
              have T4 := Lib.hid (hfr.blk T3.out hne)
              have g1 : w4.cell? ⟨w1.heap.size, 1, none⟩ = some (.string (tokAt E.ts st.i).s) := (blk_cell T4.out 1).trans rfl
              clear hfr f0 f1
              have hR := HR.out
              clear HR
              generalize hq : takeP E.c E.ts st = r at hp hR
              cases r with
              | out => exact hp.elim
              | bad fl rws =>
                obtain ⟨rfl, p1, p2, p3⟩ := hp
                simp only [Rs.bind] at hR
                subst hR
                exact ⟨rfl, rfl, p1, F3.out.trans p2 (fun _ _ h => h), p3⟩
              | ok v4 st4 =>
                obtain ⟨rfl, p1, p2⟩ := hp
                simp only [Rs.bind] at hR
                have H4 := Lib.hid p1
                have F4 := Lib.hid (F3.out.trans p2 (fun _ _ h => h))
                have HR := Lib.hid hR
                have I4 := Lib.hid (take_i hq)
                clear p1 p2 hR hq
                go_wp2_with fail
                refine (node_rd w4 E st4 1 (tokAt E.ts st.i).s 0 0 H4.out hsz).mono ?_
                rintro e w5 ⟨he, p1, p2⟩
                have hR := HR.out
                clear HR
                try simp only [nodeK] at hR
                have hq := (nodeP_ext st4 1 (tokAt E.ts st.i).s 0 0).2
                generalize nodeP st4 1 (tokAt E.ts st.i).s 0 0 = r at he p1 hR hq
                obtain ⟨v5, st5⟩ := r
                simp only at he p1 hR hq
                subst he
                have H5 := Lib.hid p1
                have F5 := Lib.hid (F4.out.trans p2 (fun _ _ h => h))
                have HR := Lib.hid hR
                have I5 := Lib.hid hq
                clear p1 p2 hR hq
                go_wp2_with fail
                have hR := HR.out
                subst hR
                go_ret
                exact ⟨rfl, H5.out, F5.out⟩
            · have hw2 : wordB (tokAt E.ts st.i).s = false := by simpa using hw
              rw [hw2]
              have hR := HR.out
              rw [if_neg (by simp [hw2])] at hR
              have HR := Lib.hid hR
              clear hR hw hw2 q1 q2
              go_wp2_with fail
              refine (fail_any w3 E st 41 H3.out).mono ?_
              rintro e w' ⟨rfl, hb⟩
              have hR := HR.out
              subst hR
              exact ⟨rfl, RsPost.pre (take_bad _ _ E st _ 41 H3.out hb) F3.out⟩
      · rw [if_neg (by simp [hk1]), if_neg (by simp [hk1]), if_neg (by simp [hk1])] at hR
        have q0 : ((tokAt E.ts st.i).k == 1) = false := by simp [hk1]
        have HR := Lib.hid hR
        clear hR
        by_cases hk3 : (tokAt E.ts st.i).k = 3
        · have q1 := lit_f lOpen (fun h => hk ⟨hk3, h⟩)
          rw [hk3] at f0
          clear hk hk1 q0
          go_wp2_with fail
          refine (fail_any w3 E st 41 H3.out).mono ?_
          rintro e w' ⟨rfl, hb⟩
          have hR := HR.out
          subst hR
          exact ⟨rfl, RsPost.pre (take_bad _ _ E st _ 41 H3.out hb) F3.out⟩
        · have q1 : ((tokAt E.ts st.i).k == 3) = false := by simp [hk3]
          clear hk hk1 hk3
          go_wp2_with fail
          refine (fail_any w3 E st 41 H3.out).mono ?_
          rintro e w' ⟨rfl, hb⟩
          have hR := HR.out
          subst hR
          exact ⟨rfl, RsPost.pre (take_bad _ _ E st _ 41 H3.out hb) F3.out⟩
end Go.Proofs.YtglnmkdlcbkpeaaGreatDoor
/- syntax: the reader's recursion, as a whole. -/
set_option linter.unusedVariables false
set_option linter.unusedSimpArgs false
namespace Go.Proofs.YtglnmkdlcbkpeaaGreatDoor
open Go.RowKit

theorem parse_all (E : Env) : ∀ f, ∀ g, g ≤ f → Ih E g := by
  intro f
  induction f with
  | zero =>
    intro g hg md st w h hn _
    obtain rfl : g = 0 := by omega
    exact absurd rfl hn
  | succ f ih =>
    intro g hg
    rcases Nat.lt_or_ge g (f + 1) with h1 | h1
    · exact ih g (by omega)
    · obtain rfl : g = f + 1 := by omega
      intro md st w h hn hm
      cases md with
      | formula => exact formula_step E f (Lib.hid ih) st w h hn
      | implied => exact implied_step E f (Lib.hid ih) st w h hn
      | row lv =>
        cases lv with
        | true => exact row_or E f (Lib.hid ih) st w h hn
        | false => exact both_step E f (Lib.hid ih) st w h hn
      | rowL lv a => exact hm.elim
      | single => exact single_step E f (Lib.hid ih) st w h hn

/-- The formula from a state on. -/
def formQ (E : Env) (st : St) : Rs := parseP E.c E.ts (mu E.ts .formula st + 1) .formula st
theorem formula_rd (E : Env) (st : St) (w : World) (h : RD w E st) :
    Calls Tryz.prog 33 #[.pointer (some ⟨E.rb, 0, none⟩)] w (RsPost w E (Value.int .i64) (formQ E st)) :=
  Ih.formula (parse_all E _ _ (Nat.le_refl _)) st w h (parse_fuel _ _ _ _ _ (Nat.lt_succ_self _))
end Go.Proofs.YtglnmkdlcbkpeaaGreatDoor
/- syntax: what read defers. -/
set_option linter.unusedVariables false
set_option linter.unusedSimpArgs false
namespace Go.Proofs.YtglnmkdlcbkpeaaGreatDoor
open Go.RowKit

theorem World.cell?_below' {w w1 : World} {b i : Nat} {v : Value} (hb : Below w.heap.size w w1) (h : w.cell? ⟨b, i, none⟩ = some v) : w1.cell? ⟨b, i, none⟩ = some v := by
  refine (hb.cell (p := ⟨b, i, none⟩) ?_).trans h
  rcases Nat.lt_or_ge b w.heap.size with h1 | h1
  · exact h1
  · simp [World.cell?, Array.getElem?_eq_none h1] at h

def Flt.arr (f : Flt) : Array Value := #[.int .i64 f.e, .int .i64 f.l, .int .i64 f.c, .int .i64 f.o]

theorem set4 {w : World} {B : Nat} {t : TypeId} {a0 a1 a2 a3 : Value} (b0 b1 b2 b3 : Value) (h : w.heap[B]? = some (.cells #[a0, a1, a2, a3] t (0, 0))) :
    ((((w.setCell ⟨B, 0, none⟩ b0).setCell ⟨B, 1, none⟩ b1).setCell ⟨B, 2, none⟩ b2).setCell ⟨B, 3, none⟩ b3).heap[B]? = some (.cells #[b0, b1, b2, b3] t (0, 0)) :=
  blk_set (blk_set (blk_set (blk_set h 0 b0) 1 b1) 2 b2) 3 b3
theorem fr4 {S : Nat → Prop} {w w1 : World} {B : Nat} (b0 b1 b2 b3 : Value) (h : Fr S w w1) (hB : B < w.heap.size → S B) :
    Fr S w ((((w1.setCell ⟨B, 0, none⟩ b0).setCell ⟨B, 1, none⟩ b1).setCell ⟨B, 2, none⟩ b2).setCell ⟨B, 3, none⟩ b3) :=
  (((h.setCell ⟨B, 0, none⟩ _ hB).setCell ⟨B, 1, none⟩ _ hB).setCell ⟨B, 2, none⟩ _ hB).setCell ⟨B, 3, none⟩ _ hB

set_option maxRecDepth 100000 in
set_option maxHeartbeats 4000000 in
theorem catch_idle (bx nb fb : Nat) (w : World) :
    CallsD Tryz.prog 50 #[.pointer (some ⟨bx, 0, none⟩), .pointer (some ⟨nb, 0, none⟩), .pointer (some ⟨fb, 0, none⟩)] .returning w fun e u' w' => e = .returned (.tuple #[]) ∧ u' = .returning ∧ w' = w := by
  refine callsD_of_wpS Tryz.func50 rfl fun c₀ cs hu => ?_
  simp only [Tryz.ntmps50, List.size_toArray, List.length_cons, List.length_nil, Nat.reduceAdd, Nat.reduceSub, Array.replicate_succ, Array.replicate_zero, List.push_toArray, List.append_toArray, List.nil_append, List.cons_append]
  apply wpS_seq
  apply wpS_region
  simp [wpOpsS, go_sem, recoverD, hu, Exit.thenS]
  refine wpS_of_wp ?_
  go_wp2_with fail
  cases c₀
  simp_all [bodyPostS, results, Tryz.results50]

set_option maxRecDepth 100000 in
set_option maxHeartbeats 4000000 in
theorem catch_bad (bx nb fb : Nat) (w : World) (E : Env) (rows : List Nd) (n : Nat) (f : Flt)
    (hbx : w.cell? ⟨bx, 0, none⟩ = some (.pointer (some ⟨E.rb, 0, none⟩))) (hnb : w.cell? ⟨nb, 0, none⟩ = some (.int .i64 n)) (hfb : w.heap[fb]? = some (.cells #[.int .i64 0, .int .i64 0, .int .i64 0, .int .i64 0] 40 (0, 0)))
    (hp : w.cell? ⟨E.rb, 0, none⟩ = some (.pointer (some ⟨E.p, 0, none⟩))) (hT : Tab w E.p rows E.G) (hl : rows.length ≤ 1024) (hd : rows.Nodup) (hn : n ≤ rows.length) (hG : ¬ E.G fb) :
    CallsD Tryz.prog 50 #[.pointer (some ⟨bx, 0, none⟩), .pointer (some ⟨nb, 0, none⟩), .pointer (some ⟨fb, 0, none⟩)] (.panicking [{ v := brk f, recovered := false }]) w fun e u' w' =>
      e = .returned (.tuple #[]) ∧ u' = .panicking [{ v := brk f, recovered := true }] ∧ Tab w' E.p (rows.take n) E.G ∧ Fr (fun k => E.G k ∨ k = fb) w w' ∧ w'.heap[fb]? = some (.cells f.arr 40 (0, 0)) := by
  refine callsD_of_wpS Tryz.func50 rfl fun c₀ cs hu => ?_
  simp only [Tryz.ntmps50, List.size_toArray, List.length_cons, List.length_nil, Nat.reduceAdd, Nat.reduceSub, Array.replicate_succ, Array.replicate_zero, List.push_toArray, List.append_toArray, List.nil_append, List.cons_append]
  apply wpS_seq
  apply wpS_region
  simp [wpOpsS, go_sem, recoverD, hu, Exit.thenS]
  refine wpS_of_wp ?_
  simp only [brk, Flt.val] at *
  have hta : ∀ (v : Value) (W : World), (Instr.typeAssert (.iface 109 v) 20 109 true).run Tryz.prog W = .ok (.tuple #[v, .bool true]) W := fun v W => by kernel_rfl
  go_wp2_with fail
  generalize hW : World.alloc _ _ = w1
  have hb1 : Below w.heap.size w w1 := by rw [← hW]; exact (Below.refl _ _).alloc (Nat.le_refl _) _
  have hx1 : w1.heap[w.heap.size]? = some (.cells f.arr 109 (0, 0)) := by rw [← hW]; exact blk_new w _
  have X1 := Lib.hid hx1
  have HT1 := Lib.hid (hT.bound.below hb1)
  have HG := Lib.hid hG
  have HF1 := Lib.hid (blk_below' hfb hb1)
  have HB1 := Lib.hid hb1
  have Hd := Lib.hid hd
  have hbx := (World.cell?_below' hb1 hbx)
  have hnb := (World.cell?_below' hb1 hnb)
  have hp := (World.cell?_below' hb1 hp)
  clear hT hfb hd hW hx1 hb1 hG
  go_still_tail 5, (by kernel_rfl)
  change wpList _ _ _ _ _ (World.drew _)
  generalize hW : World.drew _ = w2
  have T2 : Hid (Tab w2 E.p rows (fun k => E.G k ∧ k < w.heap.size)) := Lib.hid (by rw [← hW]; exact HT1.out.move (fun _ _ _ => rfl))
  have B2 : Hid (Below w.heap.size w w2) := Lib.hid (by rw [← hW]; exact HB1.out.drew)
  have X2 : Hid (w2.heap[w.heap.size]? = some (.cells f.arr 109 (0, 0))) := Lib.hid (by rw [← hW]; exact X1.out)
  have F2 : Hid (w2.heap[fb]? = some (.cells #[.int .i64 0, .int .i64 0, .int .i64 0, .int .i64 0] 40 (0, 0))) := Lib.hid (by rw [← hW]; exact HF1.out)
  clear hbx hnb hp HT1 HF1 HB1 X1 hW
  go_wp2_with fail
  refine (cut_tab w2 E.p rows _ n T2.out hl Hd.out hn).mono ?_
  rintro e w3 ⟨rfl, hT3, hF3⟩
  have x3 := hF3.blk X2.out (fun h => absurd h.2 (by omega))
  have f3 := hF3.blk F2.out (fun h => HG.out h.1)
  have T3 := Lib.hid hT3
  have R3 := Lib.hid hF3
  obtain ⟨_, _, _, _, z0, z1, z2, z3⟩ := zero_flt f3
  have y0 : w3.cell? ⟨fb, 0, none⟩ = some (.int .i64 0) := (blk_cell f3 0).trans rfl
  have y1 : w3.cell? ⟨fb, 1, none⟩ = some (.int .i64 0) := (blk_cell f3 1).trans rfl
  have y2 : w3.cell? ⟨fb, 2, none⟩ = some (.int .i64 0) := (blk_cell f3 2).trans rfl
  have y3 : w3.cell? ⟨fb, 3, none⟩ = some (.int .i64 0) := (blk_cell f3 3).trans rfl
  have x0 : w3.cell? ⟨w.heap.size, 0, none⟩ = some (.int .i64 f.e) := (blk_cell x3 0).trans rfl
  have x1 : w3.cell? ⟨w.heap.size, 1, none⟩ = some (.int .i64 f.l) := (blk_cell x3 1).trans rfl
  have x2 : w3.cell? ⟨w.heap.size, 2, none⟩ = some (.int .i64 f.c) := (blk_cell x3 2).trans rfl
  have xx3 : w3.cell? ⟨w.heap.size, 3, none⟩ = some (.int .i64 f.o) := (blk_cell x3 3).trans rfl
  have Z3 := Lib.hid f3
  clear hT3 hF3 x3 f3
  go_wp2_with fail
  have hfin : Tab ((((w3.setCell ⟨fb, 0, none⟩ (.int .i64 f.e)).setCell ⟨fb, 1, none⟩ (.int .i64 f.l)).setCell ⟨fb, 2, none⟩ (.int .i64 f.c)).setCell ⟨fb, 3, none⟩ (.int .i64 f.o)) E.p (rows.take n) E.G ∧
      Fr (fun k => E.G k ∨ k = fb) w ((((w3.setCell ⟨fb, 0, none⟩ (.int .i64 f.e)).setCell ⟨fb, 1, none⟩ (.int .i64 f.l)).setCell ⟨fb, 2, none⟩ (.int .i64 f.c)).setCell ⟨fb, 3, none⟩ (.int .i64 f.o)) := by
    refine ⟨(T3.out.fr (fr4 (S := fun k => k = fb) _ _ _ _ (Fr.refl _ w3) (fun _ => rfl)) (fun k hk _ e => HG.out (e ▸ hk.1))).mono (fun k hk => hk.1), fr4 _ _ _ _ ?_ (fun _ => .inr rfl)⟩
    exact (Fr.of_below B2.out _).trans R3.out (fun i _ h => .inl h.1)
  have Hfin := Lib.hid hfin
  have Hset := Lib.hid (set4 (.int .i64 f.e) (.int .i64 f.l) (.int .i64 f.c) (.int .i64 f.o) Z3.out)
  clear hfin
  refine ⟨rfl, _, rfl, .tuple #[], by simp [results, Tryz.results50], rfl, rfl, Hfin.out.1, Hfin.out.2, Hset.out⟩
end Go.Proofs.YtglnmkdlcbkpeaaGreatDoor
/- syntax: read. -/
set_option linter.unusedVariables false
set_option linter.unusedSimpArgs false
namespace Go.Proofs.YtglnmkdlcbkpeaaGreatDoor
open Go.RowKit

def Env.at (E : Env) (N : Nat) : Env := { E with N := N }
/-- What the part that is read leaves. -/
def WPost (w : World) (E : Env) (ib : Nat) (r : Rs) (e : Ending) (w' : World) : Prop :=
  match r with
  | .out => False
  | .bad f rows => e = pnc f ∧ Tab w' E.p rows E.G ∧ Fr (fun k => E.S k ∨ k = ib) w w' ∧ rows.length ≤ 1024 ∧ rows.Nodup ∧ w'.cell? ⟨E.rb, 0, none⟩ = some (.pointer (some ⟨E.p, 0, none⟩))
  | .ok v st => e = .returned (.tuple #[]) ∧ RD w' E st ∧ Fr (fun k => E.S k ∨ k = ib) w w' ∧ w'.heap[ib]? = some (.cells #[.int .i64 v] 3 (0, 0))
def full30 : Flt := ⟨30, 0, 0, 0⟩
def readOut (st0 : St) : Rs → Flt × List Nd
  | .out => (Flt.ok, [])
  | .bad f _ => (f, st0.rows)
  | .ok _ st => if st.full then (full30, st0.rows) else (Flt.ok, st.rows)
def ReadPost (w : World) (E : Env) (st0 : St) (ib : Nat) (r : Rs) (e : Ending) (w' : World) : Prop :=
  e = .returned (readOut st0 r).1.val ∧ Tab w' E.p (readOut st0 r).2 (fun k => E.F k ∨ w.heap.size ≤ k) ∧ Fr (fun k => k = E.rb ∨ E.F k ∨ k = ib) w w' ∧
    (∀ v st, r = .ok v st → st.full = false → w'.heap[ib]? = some (.cells #[.int .i64 v] 3 (0, 0)) ∧ w'.cell? ⟨E.rb, 2, none⟩ = some (.int .i64 st.i))

theorem RD.at {w w1 : World} {E : Env} {st : St} (h : RD w E st) (hT : Tab w E.p st.rows E.F) (hb : Below w.heap.size w w1) (hN : E.N = w.heap.size) : RD w1 (E.at w1.heap.size) st :=
  have hs := hb.size
  ⟨blk_below' h.rd hb, (hT.below hb).mono (fun k hk => .inl hk), fun hn => by
    obtain ⟨b, off, e, h1, h2, h3, h4⟩ := h.toks hn
    have h1' : b < w.heap.size := hN ▸ h1
    exact ⟨b, off, e, (by show b < w1.heap.size; omega), h2, h3, fun j u hu => (hb.cell (p := ⟨b, off + j, none⟩) h1').trans (h4 j u hu)⟩, Nat.le_refl _, h.rbF, (by have := h.rbN; show E.rb < w1.heap.size; omega), h.len, h.tok, h.rows, h.nodup, h.i, h.names, h.nest⟩

theorem flt_results {tmps : Array Value} {W : World} {f : Flt} {fb : Nat} (ht : tmps[4]?.getD undef = .pointer (some ⟨fb, 0, none⟩)) (hf : W.heap[fb]? = some (.cells f.arr 40 (0, 0))) : (results Tryz.f31 tmps).run Tryz.prog W = .ok f.val W := by
  have y0 : W.cell? ⟨fb, 0, none⟩ = some (.int .i64 f.e) := (blk_cell hf 0).trans rfl
  have y1 : W.cell? ⟨fb, 1, none⟩ = some (.int .i64 f.l) := (blk_cell hf 1).trans rfl
  have y2 : W.cell? ⟨fb, 2, none⟩ = some (.int .i64 f.c) := (blk_cell hf 2).trans rfl
  have y3 : W.cell? ⟨fb, 3, none⟩ = some (.int .i64 f.o) := (blk_cell hf 3).trans rfl
  clear hf
  simp [results, Tryz.results31, go_sem, ht, y0, y1, y2, y3, Flt.val]

/-- What read's deferred closure finds. -/
structure Kept (w w2 : World) (E : Env) (n : Nat) : Prop where
  bx : w2.cell? ⟨w.heap.size, 0, none⟩ = some (.pointer (some ⟨E.rb, 0, none⟩))
  fb : w2.heap[w.heap.size + 1]? = some (.cells #[.int .i64 0, .int .i64 0, .int .i64 0, .int .i64 0] 40 (0, 0))
  nb : w2.cell? ⟨w.heap.size + 1 + 1, 0, none⟩ = some (.int .i64 n)

def closure (w : World) : Deferred := { target := .fn (.func 50) #[.pointer (some ⟨w.heap.size, 0, none⟩), .pointer (some ⟨w.heap.size + 1 + 1, 0, none⟩), .pointer (some ⟨w.heap.size + 1, 0, none⟩)], args := #[] }

theorem leaves_bad (w w1 w2 : World) (E : Env) (st0 : St) (ib : Nat) (r : Rs) (f : Flt) (rows : List Nd) (tmps : Array Value)
    (ht : tmps[4]?.getD undef = .pointer (some ⟨w.heap.size + 1, 0, none⟩)) (hk : Kept w w2 E st0.rows.length) (hb : Below w.heap.size w w1) (hs1 : w.heap.size + 1 < w1.heap.size) (hf : Fr (fun k => (E.at w1.heap.size).S k ∨ k = ib) w1 w2)
    (hp : w2.cell? ⟨E.rb, 0, none⟩ = some (.pointer (some ⟨E.p, 0, none⟩))) (hT : Tab w2 E.p rows (E.at w1.heap.size).G) (hl : rows.length ≤ 1024) (hd : rows.Nodup) (hpre : st0.rows <+: rows) (hFl : ∀ k, E.F k → k < w.heap.size)
    (hr : readOut st0 r = (f, st0.rows)) (hr2 : ∀ v st, r = .ok v st → st.full = true) :
    Leaves Tryz.prog Tryz.f31 tmps (ReadPost w E st0 ib r) [closure w] (.panicking [{ v := brk f, recovered := false }]) w2 := by
  have hG : ¬ (E.at w1.heap.size).G (w.heap.size + 1) := by
    rintro (h | h)
    · have := hFl _ h; omega
    · have h' : w1.heap.size ≤ w.heap.size + 1 := h
      omega
  refine leaves_cons (f := 50) (args := #[.pointer (some ⟨w.heap.size, 0, none⟩), .pointer (some ⟨w.heap.size + 1 + 1, 0, none⟩), .pointer (some ⟨w.heap.size + 1, 0, none⟩)]) (by simp) (by simp [go_sem]) ?_
  refine (catch_bad w.heap.size (w.heap.size + 1 + 1) (w.heap.size + 1) w2 (E.at w1.heap.size) rows st0.rows.length f hk.bx hk.nb hk.fb hp hT hl hd hpre.length_le hG).mono ?_
  rintro e u' w3 ⟨rfl, rfl, hT3, hF3, hB3⟩
  have htk : rows.take st0.rows.length = st0.rows := (List.prefix_iff_eq_take.1 hpre).symm
  rw [htk] at hT3
  refine ⟨f.val, flt_results ht hB3, ?_⟩
  rw [ReadPost, hr]
  refine ⟨rfl, hT3.mono (fun k hk => hk.imp id (fun h => Nat.le_trans hb.size h)), ?_, fun v st h1 h2 => ?_⟩
  · refine ((Fr.of_below hb _).trans hf ?_).trans hF3 ?_
    · rintro i hi ((h | h | h) | h)
      · exact .inl h
      · exact .inr (.inl h)
      · exact absurd h (by show ¬ w1.heap.size ≤ i; omega)
      · exact .inr (.inr h)
    · rintro i hi ((h | h) | h)
      · exact .inr (.inl h)
      · exact absurd h (by show ¬ w1.heap.size ≤ i; omega)
      · omega
  · rw [hr2 v st h1] at h2
    cases h2

set_option maxRecDepth 100000 in
set_option maxHeartbeats 4000000 in
theorem read_any (w : World) (E : Env) (st0 : St) (fid : FuncId) (caps : Array Value) (ib : Nat) (r : Rs) (h : RD w E st0) (hT : Tab w E.p st0.rows E.F) (hFl : ∀ k, E.F k → k < w.heap.size) (hN : E.N = w.heap.size) (hib : ib < w.heap.size)
    (he : ∀ args W, (callFunc fid args).run Tryz.prog W = .ok (.enter fid args) W) (hext : Ext st0 r)
    (hw : ∀ w', Below w.heap.size w w' → RD w' (E.at w'.heap.size) st0 → Calls Tryz.prog fid caps w' (WPost w' (E.at w'.heap.size) ib r)) :
    Calls Tryz.prog 31 #[.pointer (some ⟨E.rb, 0, none⟩), .func (.func fid) #[] caps] w (ReadPost w E st0 ib r) := by
  have hmf : ∀ (fn : Fn) (first cap : Array Value) (w : World), (Instr.makeFunc fn first cap).run Tryz.prog w = .ok (.func fn first cap) w := fun _ _ _ _ => rfl
  have H := Lib.hid h
  have HT := Lib.hid hT
  have HFl := Lib.hid hFl
  have HW := Lib.hid hw
  have Hext := Lib.hid hext
  have d0 := h.cells.1
  have hrb : E.rb < w.heap.size := Nat.lt_of_lt_of_le h.rbN h.size
  clear h hT hFl hw hext
  go_enter_defers Tryz.func31, Tryz.ntmps31
  go_wp2_with fail
  have hb0 := ((Below.refl w.heap.size w).alloc (Nat.le_refl _) (.cells #[.pointer (some ⟨E.rb, 0, none⟩)] 83 (0, 0))).alloc (by simp) (.cells #[.int .i64 0, .int .i64 0, .int .i64 0, .int .i64 0] 40 (0, 0))
  refine (len_tab _ E.p st0.rows E.F (HT.out.below hb0)).mono ?_
  rintro e w1 ⟨rfl, rfl⟩
  clear hb0
  go_wp2_with fail
  have hN0 := hN
  have Hd : Hid (Kept w (((w.alloc (.cells #[.pointer (some ⟨E.rb, 0, none⟩)] 83)).alloc (.cells #[.int .i64 0, .int .i64 0, .int .i64 0, .int .i64 0] 40)).alloc (.cells #[.int .i64 st0.rows.length] 3)) E st0.rows.length) := by
    have k0 := blk_alloc (blk_alloc (blk_new w (.cells #[.pointer (some ⟨E.rb, 0, none⟩)] 83)) (.cells #[.int .i64 0, .int .i64 0, .int .i64 0, .int .i64 0] 40)) (.cells #[.int .i64 st0.rows.length] 3)
    have k1 := blk_alloc (blk_new (w.alloc (.cells #[.pointer (some ⟨E.rb, 0, none⟩)] 83)) (.cells #[.int .i64 0, .int .i64 0, .int .i64 0, .int .i64 0] 40)) (.cells #[.int .i64 st0.rows.length] 3)
    have k2 := blk_new ((w.alloc (.cells #[.pointer (some ⟨E.rb, 0, none⟩)] 83)).alloc (.cells #[.int .i64 0, .int .i64 0, .int .i64 0, .int .i64 0] 40)) (.cells #[.int .i64 st0.rows.length] 3)
    rw [show (w.alloc (.cells #[.pointer (some ⟨E.rb, 0, none⟩)] 83)).heap.size = w.heap.size + 1 from by simp] at k1
    rw [show ((w.alloc (.cells #[.pointer (some ⟨E.rb, 0, none⟩)] 83)).alloc (.cells #[.int .i64 0, .int .i64 0, .int .i64 0, .int .i64 0] 40)).heap.size = w.heap.size + 1 + 1 from by simp] at k2
    exact ⟨(blk_cell k0 0).trans rfl, k1, (blk_cell k2 0).trans rfl⟩
  have hb1 : Below w.heap.size w (((w.alloc (.cells #[.pointer (some ⟨E.rb, 0, none⟩)] 83)).alloc (.cells #[.int .i64 0, .int .i64 0, .int .i64 0, .int .i64 0] 40)).alloc (.cells #[.int .i64 st0.rows.length] 3)) := (((Below.refl _ _).alloc (Nat.le_refl _) _).alloc (by simp) _).alloc (by simp; omega) _
  have hs1 : (((w.alloc (.cells #[.pointer (some ⟨E.rb, 0, none⟩)] 83)).alloc (.cells #[.int .i64 0, .int .i64 0, .int .i64 0, .int .i64 0] 40)).alloc (.cells #[.int .i64 st0.rows.length] 3)).heap.size = w.heap.size + 3 := by simp
  generalize World.alloc _ _ = w1 at *
  refine (HW.out w1 hb1 (H.out.at HT.out hb1 hN)).mono ?_
  intro e w2 hp
  have HB1 := Lib.hid hb1
  have HP := Lib.hid hp
  have Hs1 := Lib.hid hs1
  have hlt : w.heap.size + 2 < w1.heap.size := by omega
  have hFrK : ∀ (w3 : World), Fr (fun k => (E.at w1.heap.size).S k ∨ k = ib) w1 w3 → Kept w w3 E st0.rows.length := fun w3 hf => by
    have hno : ∀ k, w.heap.size ≤ k → k < w1.heap.size → ¬ ((E.at w1.heap.size).S k ∨ k = ib) := by
      rintro k h1 h2 ((h | h | h) | h)
      · have : k = E.rb := h
        omega
      · have := HFl.out k h; omega
      · have h' : w1.heap.size ≤ k := h
        omega
      · omega
    exact ⟨(World.cell?_of_block (hf.block w.heap.size (by omega) (hno w.heap.size (by omega) (by omega)))).trans Hd.out.bx, hf.blk Hd.out.fb (hno _ (by omega) (by omega)), (World.cell?_of_block (hf.block (w.heap.size + 1 + 1) (by omega) (hno (w.heap.size + 1 + 1) (by omega) (by omega)))).trans Hd.out.nb⟩
  have HK := Lib.hid hFrK
  clear hb1 hp hs1 hFrK
  cases hr : r with
  | out => have := HP.out; rw [hr] at this; exact this.elim
  | bad f rows =>
    have hp := HP.out
    have hext := Hext.out
    rw [hr] at hp hext
    obtain ⟨rfl, p1, p2, p3, p4, p5⟩ := hp
    rw [← hr]
    exact leaves_bad w w1 w2 E st0 ib r f rows _ rfl (HK.out w2 p2) HB1.out (by omega) p2 p5 p1 p3 p4 hext HFl.out (by rw [hr]; rfl) (fun v st h => by rw [hr] at h; cases h)
  | ok v st =>
    have hp := HP.out
    have hext := Hext.out
    rw [hr] at hp hext
    obtain ⟨rfl, p1, p2, p3⟩ := hp
    have HKK := Lib.hid (HK.out w2 p2)
    have q0 := HKK.out.bx
    have q6 : w2.cell? ⟨E.rb, 6, none⟩ = some (.bool st.full) := p1.cells.2.2.2.2.2.2
    have H2 := Lib.hid p1
    have F2 := Lib.hid p2
    have I2 := Lib.hid p3
    have Hr := Lib.hid hr
    have Hext2 := Lib.hid hext
    clear p1 p2 p3 hext
    cases hfl : st.full with
    | true =>
      rw [hfl] at q6
      have Hfl := Lib.hid hfl
      have hpan : ∀ (v : Value) (W : World), (Instr.panic (.iface 109 v)).run Tryz.prog W = .halt (.panic (.iface 109 v)) W := fun _ _ => rfl
      clear hfl hr
      go_wp2_with fail
      exact leaves_bad w w1 w2 E st0 ib r full30 st.rows _ rfl HKK.out HB1.out (by omega) F2.out H2.out.cells.1 H2.out.tab H2.out.rows H2.out.nodup Hext2.out.1 HFl.out (by rw [Hr.out, readOut, if_pos Hfl.out]) (fun v' st' h => by rw [Hr.out] at h; cases h; exact Hfl.out)
    | false =>
      rw [hfl] at q6
      have Hfl := Lib.hid hfl
      obtain ⟨_, _, _, _, z0, z1, z2, z3⟩ := zero_flt HKK.out.fb
      have y0 : w2.cell? ⟨w.heap.size + 1, 0, none⟩ = some (.int .i64 0) := (blk_cell HKK.out.fb 0).trans rfl
      have y1 : w2.cell? ⟨w.heap.size + 1, 1, none⟩ = some (.int .i64 0) := (blk_cell HKK.out.fb 1).trans rfl
      have y2 : w2.cell? ⟨w.heap.size + 1, 2, none⟩ = some (.int .i64 0) := (blk_cell HKK.out.fb 2).trans rfl
      have y3 : w2.cell? ⟨w.heap.size + 1, 3, none⟩ = some (.int .i64 0) := (blk_cell HKK.out.fb 3).trans rfl
      clear hfl hr
      go_wp2_with fail
      generalize hW : World.setCell _ _ _ = w3
      have hf3 : Fr (fun k => k = w.heap.size + 1) w2 w3 := by rw [← hW]; exact fr4 _ _ _ _ (Fr.refl _ w2) (fun _ => rfl)
      have hb3 : w3.heap[w.heap.size + 1]? = some (.cells Flt.ok.arr 40 (0, 0)) := by rw [← hW]; exact set4 _ _ _ _ HKK.out.fb
      refine leaves_cons (f := 50) (args := #[.pointer (some ⟨w.heap.size, 0, none⟩), .pointer (some ⟨w.heap.size + 1 + 1, 0, none⟩), .pointer (some ⟨w.heap.size + 1, 0, none⟩)]) (by simp) (by simp [go_sem]) ?_
      refine (catch_idle _ _ _ w3).mono ?_
      rintro e u' w4 ⟨rfl, rfl, rfl⟩
      refine ⟨Flt.ok.val, flt_results rfl hb3, ?_⟩
      have hout : readOut st0 r = (Flt.ok, st.rows) := by rw [Hr.out, readOut, if_neg (by rw [Hfl.out]; decide)]
      have hGno : ¬ (E.at w1.heap.size).G (w.heap.size + 1) := by
        rintro (h | h)
        · have := HFl.out _ h; omega
        · have h' : w1.heap.size ≤ w.heap.size + 1 := h
          omega
      rw [ReadPost, hout]
      refine ⟨rfl, (H2.out.tab.fr hf3 (fun k hk _ e => hGno (e ▸ hk))).mono (fun k hk => hk.imp id (fun h => Nat.le_trans HB1.out.size h)), ?_, fun v' st' h1 h2 => ?_⟩
      · refine ((Fr.of_below HB1.out _).trans F2.out ?_).trans hf3 (fun i hi e => by omega)
        rintro i hi ((h | h | h) | h)
        · exact .inl h
        · exact .inr (.inl h)
        · exact absurd h (by show ¬ w1.heap.size ≤ i; omega)
        · exact .inr (.inr h)
      · rw [Hr.out] at h1
        cases h1
        refine ⟨hf3.blk I2.out (by omega), (World.cell?_of_block (hf3.block E.rb (blk_lt H2.out.rd) (by omega))).trans H2.out.cells.2.2.1⟩
end Go.Proofs.YtglnmkdlcbkpeaaGreatDoor
