/-
  The reference's table of formulas: what its Word, Has, Find, Same, Put and From answer, under the stated layout in memory.
-/
import Derived.Test.YtglnmkdlcbkpeaaGreatDoorGF
import Derived.Deep.CutBlock
/- The reference's names. -/
set_option linter.unusedVariables false
set_option linter.unusedSimpArgs false
namespace Go.Proofs.YtglnmkdlcbkpeaaGreatDoor
open Go.RowKit

def isLet (c : Nat) : Prop := (97 ≤ c ∧ c ≤ 122) ∨ (65 ≤ c ∧ c ≤ 90)
instance (c : Nat) : Decidable (isLet c) := by unfold isLet; infer_instance
theorem letter03 (c : Nat) (w : World) (hc : c < 256) : Calls Tryz.prog 80 #[.int .u8 c] w fun e w' => e = .returned (.bool (decide (isLet c))) ∧ w = w' := by
  by_cases hl : isLet c
  · rw [decide_eq_true hl]
    unfold isLet at hl
    go_enter Tryz.func80, Tryz.ntmps80
    go_wp2_with fail
    all_goals first
      | (exfalso; go_light; omega)
      | (go_ret; exact ⟨ret_bool (by go_light; first | rfl | (simp; omega)), rfl⟩)
  · rw [decide_eq_false hl]
    unfold isLet at hl
    go_enter Tryz.func80, Tryz.ntmps80
    go_wp2_with fail
    all_goals first
      | (exfalso; go_light; omega)
      | (go_ret; exact ⟨ret_bool (by go_light; first | rfl | (simp; omega)), rfl⟩)
theorem goodAt_iff (c : UInt8) (k : Nat) : goodAt k c.toNat ↔ (isLet c.toNat ∨ (k ≠ 0 ∧ (c.toNat = 95 ∨ c.toNat = 39 ∨ (48 ≤ c.toNat ∧ c.toNat ≤ 57)))) := by
  have h : ∀ n : Fin 256, (decide (97 ≤ n.val ||| 32 ∧ n.val ||| 32 ≤ 122)) = decide (isLet n.val) := by decide +kernel
  have hc := h ⟨c.toNat, c.toNat_lt⟩
  have : (97 ≤ c.toNat ||| 32 ∧ c.toNat ||| 32 ≤ 122) ↔ isLet c.toNat := decide_eq_decide.1 hc
  unfold goodAt
  rw [this]

def wsB : List ByteArray := [⟨#[97, 98, 111, 114, 116]⟩, ⟨#[99, 97, 115, 101]⟩, ⟨#[102, 97, 108, 115, 101]⟩, ⟨#[102, 115, 116]⟩, ⟨#[102, 117, 110]⟩, ⟨#[105, 110]⟩, ⟨#[105, 110, 108]⟩, ⟨#[105, 110, 114]⟩, ⟨#[108, 101, 116]⟩, ⟨#[111, 102]⟩, ⟨#[115, 110, 100]⟩, ⟨#[116, 114, 117, 101]⟩]
theorem wsB_res : wsB.map ByteArray.toList = resWords := by decide +kernel
theorem resB_ws (s : ByteArray) : resB s = wsB.any (fun u => u.toList == s.toList) := by
  rw [resB, ← wsB_res, List.any_map]
  congr 1
  funext u
  simp only [Function.comp]
  exact Bool.beq_comm ..
theorem ws_at (s : ByteArray) (k : Nat) (h : k < 12) : (wsB.drop k).any (fun u => u.toList == s.toList) = ((wsB.getD k ⟨#[]⟩).toList == s.toList || (wsB.drop (k + 1)).any (fun u => u.toList == s.toList)) := by
  rw [List.drop_eq_getElem_cons (by exact h : k < wsB.length), List.any_cons]
  rw [List.getD_eq_getElem?_getD, List.getElem?_eq_getElem (show k < wsB.length from h), Option.getD_some]
  rfl
def resCells : Array Value := (wsB.map Value.string).toArray

theorem reserved03 (w : World) : Calls Tryz.prog 81 #[] w fun e w' => e = .returned (.slice (some ⟨w.heap.size, 0, none⟩) 12 12) ∧ w' = w.alloc (.cells resCells 9) := by
  go_enter Tryz.func81, Tryz.ntmps81
  go_wp2_with fail
  go_ret
  exact ⟨rfl, rfl⟩

set_option maxRecDepth 100000 in
set_option maxHeartbeats 1600000 in
theorem word03 (s : ByteArray) (w : World) (hs : s.size ≤ 140737488355328) :
    Calls Tryz.prog 67 #[.string s] w fun e w' => e = .returned (.bool (wordB s)) ∧ Below w.heap.size w w' := by
  by_cases c1 : s.size < 1
  · have hf : wordB s = false := by simp [wordB, show s.size = 0 by omega]
    have h1 : (s.size : Int) < 1 := by omega
    rw [hf]
    clear hf c1
    go_enter Tryz.func67, Tryz.ntmps67
    go_wp2_with fail
    go_ret
    exact ⟨rfl, Below.refl _ _⟩
  · have h1 : ¬ (s.size : Int) < 1 := by omega
    by_cases c2 : s.size ≤ 31
    · have h31 : ¬ (31 : Int) < (s.size : Int) := by omega
      have h0 : 0 < s.size := by omega
      have Hs := Lib.hid (show wordB s = (wordLoop 0 s.data.toList && !resB s) by simp [wordB, show s.size ≠ 0 by omega, c2])
      by_cases hl : isLet s[0].toNat
      · have hd : decide (isLet s[0].toNat) = true := decide_eq_true hl
        have Hd := Lib.hid hd
        have hb : s[0].toNat < 256 := s[0].toNat_lt
        clear hd
        have Hw : Hid (wordLoop 0 s.data.toList = wordLoop 1 (s.data.toList.drop 1)) := by
          have := wordLoop_at s 0 h0
          rw [decide_eq_true ((goodAt_iff s[0] 0).2 (.inl hl))] at this
          rw [Bool.true_and] at this
          exact this
        clear hl
        go_enter Tryz.func67, Tryz.ntmps67
        go_wp2_with (go_at_call 80; refine (letter03 _ _ hb).mono ?_; rintro e w' ⟨rfl, rfl⟩; rw [Hd.out])
        go_loop [3] (fun i => ∃ k : Nat, 1 ≤ k ∧ k ≤ s.size ∧ i = .int .i64 k ∧ wordLoop 0 s.data.toList = wordLoop k (s.data.toList.drop k)) (fun i => s.size - (intOf i).toNat)
        case atStart => exact ⟨1, by omega, by omega, rfl, Hw.out⟩
        case round =>
          obtain ⟨k, hk1, hk, rfl, hw⟩ := hrel
          have Hw := Lib.hid hw
          clear hw
          by_cases hlt : k < s.size
          · have Hs1 := Lib.hid (Hw.out.trans (wordLoop_at s k hlt))
            have hb : s[k].toNat < 256 := s[k].toNat_lt
            go_wp2_with (go_at_call 80; refine (letter03 _ _ hb).mono ?_; rintro e w' ⟨rfl, rfl⟩)
            all_goals first
              | (have hg : goodAt k s[k].toNat := by
                   rw [goodAt_iff, isLet]
                   go_light
                   try simp only [Bool.not_eq_true', Bool.not_eq_false', decide_eq_true_eq, decide_eq_false_iff_not, beq_iff_eq, bne_iff_ne, beq_eq_false_iff_ne, bne_eq_false_iff_eq, Ne, isLet] at *
                   omega
                 exact ⟨⟨k + 1, by omega, by omega, by go_num, by rw [Hs1.out, decide_eq_true hg, Bool.true_and]⟩, by simp [intOf]; omega⟩)
              | (have hg : ¬ goodAt k s[k].toNat := by
                   rw [goodAt_iff, isLet]
                   go_light
                   try simp only [Bool.not_eq_true', Bool.not_eq_false', decide_eq_true_eq, decide_eq_false_iff_not, beq_iff_eq, bne_iff_ne, beq_eq_false_iff_ne, bne_eq_false_iff_eq, Ne, isLet] at *
                   omega
                 go_ret
                 exact ⟨by rw [Hs.out, Hs1.out, decide_eq_false hg]; rfl, Below.refl _ _⟩)
              | (exfalso
                 go_light
                 try simp only [Bool.not_eq_true', Bool.not_eq_false', decide_eq_true_eq, decide_eq_false_iff_not, beq_iff_eq, bne_iff_ne, beq_eq_false_iff_ne, bne_eq_false_iff_eq, Ne, isLet] at *
                 omega)
          · have he : wordLoop 0 s.data.toList = true := by rw [Hw.out, List.drop_of_length_le (by simp; show s.size ≤ k; omega)]; rfl
            have Hr : Hid (wordB s = !resB s) := by
              show wordB s = !resB s
              rw [Hs.out, he, Bool.true_and]
            clear he Hw Hs
            go_wp2_with (go_at_call 81; refine (reserved03 _).mono ?_; rintro e w' ⟨rfl, rfl⟩)
            go_loop [5] (fun i => ∃ j : Nat, j ≤ 12 ∧ i = .int .i64 j ∧ resB s = (wsB.drop j).any (fun u => u.toList == s.toList)) (fun i => 12 - (intOf i).toNat)
            case atStart => exact ⟨0, by omega, rfl, resB_ws s⟩
            case round =>
              obtain ⟨j, hj, rfl, hw⟩ := hrel
              have Hw := Lib.hid hw
              clear hw
              by_cases hlt : j < 12
              · have Hs1 := Lib.hid (Hw.out.trans (ws_at s j hlt))
                have hcell : (w.alloc (.cells resCells 9)).cell? ⟨w.heap.size, j, none⟩ = some (.string (wsB.getD j ⟨#[]⟩)) := by
                  rw [blk_cell (blk_new w _)]
                  simp only [resCells, List.getElem?_toArray, List.getElem?_map, List.getD_eq_getElem?_getD]
                  rw [List.getElem?_eq_getElem (show j < wsB.length from hlt)]
                  rfl
                have hj1 : (j : Int) < 12 := by omega
                generalize wsB.getD j ⟨#[]⟩ = u at *
                go_wp2_with fail
                · rename_i he _
                  have he' : (u.toList == s.toList) = true := by assumption
                  have hf : wordB s = false := by rw [Hr.out, Hs1.out, he']; rfl
                  go_ret
                  exact ⟨by rw [hf]; rfl, (Below.refl _ _).alloc (Nat.le_refl _) _⟩
                · have he' : (u.toList == s.toList) = false := by assumption
                  exact ⟨⟨j + 1, by omega, by go_num, by rw [Hs1.out, he', Bool.false_or]⟩, by simp [intOf]; omega⟩
              · have hf : resB s = false := by rw [Hw.out, List.drop_of_length_le (show wsB.length ≤ j by show 12 ≤ j; omega)]; rfl
                have Hf : Hid (wordB s = true) := by
                  show wordB s = true
                  rw [Hr.out, hf]; rfl
                clear hf
                have hj1 : ¬ (j : Int) < 12 := by omega
                go_wp2_with fail
                go_ret
                exact ⟨by rw [Hf.out]; rfl, (Below.refl _ _).alloc (Nat.le_refl _) _⟩
      · have hf : wordB s = false := by
          rw [Hs.out, show wordLoop 0 s.data.toList = _ from wordLoop_at s 0 h0, decide_eq_false (fun h => hl (((goodAt_iff s[0] 0).1 h).resolve_right (fun h => h.1 rfl)))]; rfl
        rw [hf]
        have hd : decide (isLet s[0].toNat) = false := decide_eq_false hl
        have Hd := Lib.hid hd
        have hb : s[0].toNat < 256 := s[0].toNat_lt
        clear hd hl hf
        go_enter Tryz.func67, Tryz.ntmps67
        go_wp2_with (go_at_call 80; refine (letter03 _ _ hb).mono ?_; rintro e w' ⟨rfl, rfl⟩; rw [Hd.out])
        go_ret
        exact ⟨rfl, Below.refl _ _⟩
    · have hf : wordB s = false := by simp [wordB, c2]
      have h31 : (31 : Int) < (s.size : Int) := by omega
      rw [hf]
      clear hf c1 c2
      go_enter Tryz.func67, Tryz.ntmps67
      go_wp2_with fail
      go_ret
      exact ⟨rfl, Below.refl _ _⟩
end Go.Proofs.YtglnmkdlcbkpeaaGreatDoor
/- The reference's table: looked at. -/
set_option linter.unusedVariables false
set_option linter.unusedSimpArgs false
namespace Go.Proofs.YtglnmkdlcbkpeaaGreatDoor
open Go.RowKit

theorem eql_node (a b : Nd) (w : World) : (binOp .eql 54 a.val b.val).run Tryz.prog w = .ok (.bool (decide (a = b))) w := by
  have h := eq_node a b w 9998
  simp only [Nd.val] at h ⊢
  rw [run_eql_struct, h]
  rfl
theorem neq_node (a b : Nd) (w : World) : (binOp .neq 54 a.val b.val).run Tryz.prog w = .ok (.bool (!decide (a = b))) w := by
  have h := eq_node a b w 9998
  simp only [Nd.val] at h ⊢
  rw [run_neq_struct, h]
  rfl

theorem findN_some {rows : List Nd} {d : Nd} {k : Nat} (h : k < rows.length) (hk : d = rows[k]) (hlt : ∀ j (hj : j < k), d ≠ rows[j]) : findN rows d = some k := by
  rw [findN, List.findIdx?_eq_some_iff_getElem]
  exact ⟨h, by simpa using hk, fun j hj => by simpa using hlt j hj⟩
theorem findN_none {rows : List Nd} {d : Nd} (hlt : ∀ j (hj : j < rows.length), d ≠ rows[j]) : findN rows d = none := by
  rw [findN, List.findIdx?_eq_none_iff]
  intro x hx
  obtain ⟨j, hj, rfl⟩ := List.getElem_of_mem hx
  simpa using hlt j hj

theorem has03 (p : Nat) (a : Option Addr) (n c : Nat) (id : Int) (w : World) (h0 : w.cell? ⟨p, 0, none⟩ = some (.slice a n c)) :
    Calls Tryz.prog 22 #[.pointer (some ⟨p, 0, none⟩), .int .i64 id] w fun e w' => e = .returned (.bool (hasB n id)) ∧ w = w' := by
  go_enter Tryz.func22, Tryz.ntmps22
  go_wp2
  all_goals go_ret
  all_goals exact ⟨by simp [hasB, *] <;> omega, rfl⟩

/-- A slice of nodes that is read. -/
def Sl (w : World) (a : Option Addr) (rows : List Nd) : Prop :=
  rows.length ≤ 3518437208883 ∧ (0 < rows.length → ∃ b off, a = some ⟨b, off, none⟩ ∧ b < w.heap.size ∧ ∀ j u, (cellsOf rows)[j]? = some u → w.cell? ⟨b, off + j, none⟩ = some u)
theorem Sl.below {w w1 : World} {a : Option Addr} {rows : List Nd} (h : Sl w a rows) (hb : Below w.heap.size w w1) : Sl w1 a rows :=
  ⟨h.1, fun hn => by
    obtain ⟨b, off, e, hl, hc⟩ := h.2 hn
    exact ⟨b, off, e, Nat.lt_of_lt_of_le hl hb.size, fun j u hu => (hb.cell (p := ⟨b, off + j, none⟩) hl).trans (hc j u hu)⟩⟩
theorem Sl.of_own {w : World} {base c : Nat} {a : Option Addr} {rows : List Nd} (h : w.ownsRow base 54 4 (.slice a rows.length c) rows.length (cellsOf rows)) (hl : rows.length ≤ 3518437208883) : Sl w a rows :=
  ⟨hl, fun hn => by
    obtain ⟨g, rfl, hg⟩ := own_cell h hn
    refine ⟨g, 0, rfl, ?_, fun j u hu => by rw [Nat.zero_add]; exact hg j u hu⟩
    obtain ⟨cs, hc⟩ := own_typed h g rfl
    exact blk_lt hc⟩
theorem Sl.at_ {w : World} {a : Option Addr} {rows : List Nd} (h : Sl w a rows) (i : Nat) (hi : i < rows.length) : ∃ b off, a = some ⟨b, off, none⟩ ∧ b < w.heap.size ∧
    w.cell? ⟨b, off + i * 4, none⟩ = some (.int .i64 rows[i].k) ∧ w.cell? ⟨b, off + i * 4 + 1, none⟩ = some (.string rows[i].s) ∧ w.cell? ⟨b, off + i * 4 + 2, none⟩ = some (.int .i64 rows[i].l) ∧ w.cell? ⟨b, off + i * 4 + 3, none⟩ = some (.int .i64 rows[i].r) := by
  obtain ⟨b, off, e, hl, hc⟩ := h.2 (by omega)
  exact ⟨b, off, e, hl, hc (i * 4) _ ((cellsOf_get rows i hi 0 (by omega)).trans rfl), hc (i * 4 + 1) _ ((cellsOf_get rows i hi 1 (by omega)).trans rfl), hc (i * 4 + 2) _ ((cellsOf_get rows i hi 2 (by omega)).trans rfl), hc (i * 4 + 3) _ ((cellsOf_get rows i hi 3 (by omega)).trans rfl)⟩

set_option maxRecDepth 100000 in
set_option maxHeartbeats 1000000 in
theorem find03 (w : World) (p : Nat) (a : Option Addr) (c : Nat) (rows : List Nd) (d : Nd) (h1 : w.heap[p]? = some (.cells #[.slice a rows.length c] 50 (0, 0))) (hS : Sl w a rows) :
    Calls Tryz.prog 68 #[.pointer (some ⟨p, 0, none⟩), d.val] w fun e w' => e = .returned (.tuple #[.int .i64 (((findN rows d).map Int.ofNat).getD 0), .bool (findN rows d).isSome]) ∧ Below w.heap.size w w' := by
  have hp := blk_lt h1
  have c0 : w.cell? ⟨p, 0, none⟩ = some (.slice a rows.length c) := (blk_cell h1 0).trans rfl
  have hl0 := hS.1
  have HS := Lib.hid hS
  clear hS h1
  obtain ⟨dk, ds, dl, dr⟩ := d
  simp only [Nd.val]
  go_enter Tryz.func68, Tryz.ntmps68
  go_wp2_with fail
  go_loopw [6] (fun i wr => ∃ k : Nat, k ≤ rows.length ∧ i = .int .i64 k ∧ (∀ j (hj : j < k) (hj' : j < rows.length), (⟨dk, ds, dl, dr⟩ : Nd) ≠ rows[j]) ∧ ∃ q, wr = (World.alloc w (.cells #[.int .i64 dk, .string ds, .int .i64 dl, .int .i64 dr] 54)).drewN q) (fun i _ => rows.length - (intOf i).toNat)
  case atStart => exact ⟨0, by omega, rfl, fun j hj => by omega, 0, rfl⟩
  case round =>
    obtain ⟨k, hk, rfl, hw, q, rfl⟩ := hrel
    have Hw := Lib.hid hw
    clear hw
    by_cases hlt : k < rows.length
    · obtain ⟨b, off, rfl, hb, e0, e1, e2, e3⟩ := HS.out.at_ k hlt
      have heq := fun W => eql_node rows[k] ⟨dk, ds, dl, dr⟩ W
      simp only [Nd.val] at heq
      by_cases hd : rows[k] = ⟨dk, ds, dl, dr⟩
      · have hf := findN_some hlt hd.symm (fun j hj => Hw.out j hj (by omega))
        have Hf := Lib.hid hf
        rw [decide_eq_true hd] at heq
        clear hf hd
        generalize rows[k] = x at *
        go_wp2_with fail
        go_quiet (fail)
        go_wp2_with fail
        go_ret2
        exact ⟨by rw [Hf.out]; rfl, below_drewN (below_drewN ((Below.refl _ _).alloc (Nat.le_refl _) _) _) _⟩
      · rw [decide_eq_false hd] at heq
        have hw2 : ∀ j (hj : j < k + 1) (hj' : j < rows.length), (⟨dk, ds, dl, dr⟩ : Nd) ≠ rows[j] := by
          intro j hj hj' he
          by_cases e : j = k
          · subst e; exact hd he.symm
          · exact Hw.out j (by omega) hj' he
        have Hw2 := Lib.hid hw2
        clear hw2 hd
        generalize rows[k] = x at *
        go_wp2_with fail
        go_quiet (fail)
        go_wp2_with fail
        go_roundw
        case rel => exact ⟨k + 1, by omega, by go_num, Hw2.out, _, rfl⟩
        case measure => simp [intOf]; omega
    · have hf := findN_none (fun j hj => Hw.out j (by omega) hj)
      have Hf := Lib.hid hf
      clear hf
      go_wp2_with fail
      go_ret2
      exact ⟨by rw [Hf.out]; rfl, below_drewN ((Below.refl _ _).alloc (Nat.le_refl _) _) _⟩

set_option maxRecDepth 100000 in
set_option maxHeartbeats 1000000 in
theorem same03 (w : World) (a a' : Option Addr) (c c' : Nat) (xs ys : List Nd) (hX : Sl w a xs) (hY : Sl w a' ys) :
    Calls Tryz.prog 13 #[.slice a xs.length c, .slice a' ys.length c'] w fun e w' => e = .returned (.bool (decide (xs = ys))) ∧ ∃ q, w' = w.drewN q := by
  have hl0 := hX.1
  have hl1 := hY.1
  have HX := Lib.hid hX
  have HY := Lib.hid hY
  clear hX hY
  by_cases hn : xs.length = ys.length
  · have hn1 : ((xs.length : Int) != (ys.length : Int)) = false := by rw [hn]; simp
    have Hn := Lib.hid hn
    clear hn
    go_enter Tryz.func13, Tryz.ntmps13
    go_wp2_with fail
    go_loopw [5] (fun i wr => ∃ k : Nat, k ≤ xs.length ∧ i = .int .i64 k ∧ (∀ j (hj : j < k) (h1 : j < xs.length) (h2 : j < ys.length), xs[j] = ys[j]) ∧ ∃ q, wr = w.drewN q) (fun i _ => xs.length - (intOf i).toNat)
    case atStart => exact ⟨0, by omega, rfl, fun j hj => by omega, 0, rfl⟩
    case round =>
      obtain ⟨k, hk, rfl, hw, q, rfl⟩ := hrel
      have Hw := Lib.hid hw
      clear hw
      by_cases hlt : k < xs.length
      · have hlt2 : k < ys.length := by have := Hn.out; omega
        obtain ⟨b, off, rfl, hb, e0, e1, e2, e3⟩ := HX.out.at_ k hlt
        obtain ⟨b', off', rfl, hb', d0, d1, d2, d3⟩ := HY.out.at_ k hlt2
        have heq := fun W => neq_node xs[k] ys[k] W
        simp only [Nd.val] at heq
        by_cases hd : xs[k] = ys[k]
        · rw [decide_eq_true hd] at heq
          have hw2 : ∀ j (hj : j < k + 1) (h1 : j < xs.length) (h2 : j < ys.length), xs[j] = ys[j] := by
            intro j hj h1 h2
            by_cases e : j = k
            · subst e; exact hd
            · exact Hw.out j (by omega) h1 h2
          have Hw2 := Lib.hid hw2
          clear hw2 hd
          generalize xs[k] = x at *
          generalize ys[k] = y at *
          go_wp2_with fail
          go_quiet (fail)
          go_wp2_with fail
          go_roundw
          case rel => exact ⟨k + 1, by omega, by go_num, Hw2.out, _, rfl⟩
          case measure => simp [intOf]; omega
        · have hf : decide (xs = ys) = false := decide_eq_false (fun e => hd (by simp only [e]))
          have Hf := Lib.hid hf
          rw [decide_eq_false hd] at heq
          clear hd hf
          generalize xs[k] = x at *
          generalize ys[k] = y at *
          go_wp2_with fail
          go_quiet (fail)
          go_wp2_with fail
          go_ret
          exact ⟨ret_bool (by rw [Hf.out]), _, by first | rfl | exact World.drewN_drewN ..⟩
      · have hf : decide (xs = ys) = true := decide_eq_true (List.ext_getElem Hn.out (fun j h1 h2 => Hw.out j (by omega) h1 h2))
        have Hf := Lib.hid hf
        clear hf
        go_wp2_with fail
        go_ret
        exact ⟨ret_bool (by rw [Hf.out]), _, by first | rfl | exact World.drewN_drewN ..⟩
  · have hf : decide (xs = ys) = false := decide_eq_false (fun e => hn (by rw [e]))
    have hn1 : ((xs.length : Int) != (ys.length : Int)) = true := by rw [bne_iff_ne]; omega
    rw [hf]
    clear hf hn
    go_enter Tryz.func13, Tryz.ntmps13
    go_wp2_with fail
    go_ret
    exact ⟨rfl, 0, rfl⟩
end Go.Proofs.YtglnmkdlcbkpeaaGreatDoor
/- The reference's Put. -/
set_option linter.unusedVariables false
set_option linter.unusedSimpArgs false
namespace Go.Proofs.YtglnmkdlcbkpeaaGreatDoor
open Go.RowKit

/-- The reference's table at block p of w. -/
def RT (w : World) (p : Nat) (rows : List Nd) (F : Nat → Prop) : Prop :=
  ∃ (a : Option Addr) (c : Nat), w.heap[p]? = some (.cells #[.slice a rows.length c] 50 (0, 0)) ∧
    w.ownsRow 0 54 4 (.slice a rows.length c) rows.length (cellsOf rows) ∧ F p ∧ (∀ k, (Value.slice a rows.length c).ownBlock = some k → F k)
theorem RT.mono {w : World} {p : Nat} {rows : List Nd} {F G : Nat → Prop} (h : RT w p rows F) (hf : ∀ k, F k → G k) : RT w p rows G := by
  obtain ⟨a, c, h1, h2, h5, h7⟩ := h
  exact ⟨a, c, h1, h2, hf _ h5, fun k hk => hf _ (h7 k hk)⟩
theorem RT.bound {w : World} {p : Nat} {rows : List Nd} {F : Nat → Prop} (h : RT w p rows F) : RT w p rows (fun k => F k ∧ k < w.heap.size) := by
  obtain ⟨a, c, h1, h2, h5, h7⟩ := h
  refine ⟨a, c, h1, h2, ⟨h5, blk_lt h1⟩, fun k hk => ⟨h7 k hk, ?_⟩⟩
  obtain ⟨cs, hc⟩ := own_typed h2 k hk
  exact blk_lt hc
theorem RT.move {w w1 : World} {p : Nat} {rows : List Nd} {F : Nat → Prop} (h : RT w p rows F) (hm : ∀ k, F k → k < w.heap.size → w1.heap[k]? = w.heap[k]?) : RT w1 p rows F := by
  obtain ⟨a, c, h1, h2, h5, h7⟩ := h.bound
  exact ⟨a, c, (hm p h5.1 h5.2).trans h1, own_move h2 (fun k hk => hm k (h7 k hk).1 (h7 k hk).2), h5.1, fun k hk => (h7 k hk).1⟩
theorem RT.below {w w1 : World} {p : Nat} {rows : List Nd} {F : Nat → Prop} (h : RT w p rows F) (hb : Below w.heap.size w w1) : RT w1 p rows F := h.move (fun k _ hk => hb.block k hk)
theorem RT.fr {w w1 : World} {p : Nat} {rows : List Nd} {F S : Nat → Prop} (h : RT w p rows F) (hb : Fr S w w1) (hn : ∀ k, F k → k < w.heap.size → ¬ S k) : RT w1 p rows F := h.move (fun k hf hk => hb.block k hk (hn k hf hk))

/-- What the reference's Put leaves. -/
def RPut (w : World) (p : Nat) (rows : List Nd) (F : Nat → Prop) (d : Nd) (e : Ending) (w' : World) : Prop :=
  e = .returned (.tuple #[.int .i64 (putR rows d).1, .int .i64 (putR rows d).2.1]) ∧ RT w' p (putR rows d).2.2 (fun k => F k ∨ w.heap.size ≤ k) ∧ Fr F w w'

theorem RPut.unfit {w w' : World} {p : Nat} {rows : List Nd} {F : Nat → Prop} {d : Nd} {x : Int} (hT : RT w p rows F) (hx : fitsN rows.length d = x) (h0 : x ≠ 0) (hb : Below w.heap.size w w') :
    RPut w p rows F d (.returned (.tuple #[.int .i64 0, .int .i64 x])) w' := by
  have hp : putR rows d = (0, x, rows) := by simp [putR, hx, h0]
  rw [RPut, hp]
  exact ⟨rfl, (hT.below hb).mono (fun k hk => .inl hk), Fr.of_below hb F⟩
theorem RPut.found {w w' : World} {p : Nat} {rows : List Nd} {F : Nat → Prop} {d : Nd} {i : Nat} (hT : RT w p rows F) (hx : fitsN rows.length d = 0) (hf : findN rows d = some i) (hb : Below w.heap.size w w') :
    RPut w p rows F d (.returned (.tuple #[.int .i64 (i : Int), .int .i64 0])) w' := by
  have hp : putR rows d = ((i : Int), 0, rows) := by simp [putR, hx, hf]
  rw [RPut, hp]
  exact ⟨rfl, (hT.below hb).mono (fun k hk => .inl hk), Fr.of_below hb F⟩
theorem RPut.full {w w' : World} {p : Nat} {rows : List Nd} {F : Nat → Prop} {d : Nd} (hT : RT w p rows F) (hx : fitsN rows.length d = 0) (hf : findN rows d = none) (hn : 1024 ≤ rows.length) (hb : Below w.heap.size w w') :
    RPut w p rows F d (.returned (.tuple #[.int .i64 0, .int .i64 30])) w' := by
  have hp : putR rows d = (0, 30, rows) := by simp [putR, hx, hf, hn]
  rw [RPut, hp]
  exact ⟨rfl, (hT.below hb).mono (fun k hk => .inl hk), Fr.of_below hb F⟩
theorem RPut.new {w w' : World} {p : Nat} {rows : List Nd} {F : Nat → Prop} {d : Nd} {a : Option Addr} {c g cap : Nat} (hx : fitsN rows.length d = 0) (hf : findN rows d = none) (hn : ¬ 1024 ≤ rows.length)
    (hFp : F p) (hF : ∀ k, (Value.slice a rows.length c).ownBlock = some k → F k)
    (g1 : w'.heap[p]? = some (.cells #[.slice (some ⟨g, 0, none⟩) (rows.length + 1) cap] 50 (0, 0))) (g2 : w'.ownsRow 0 54 4 (.slice (some ⟨g, 0, none⟩) (rows.length + 1) cap) (rows.length + 1) (cellsOf rows ++ d.cells))
    (g4 : (Value.slice a rows.length c).ownBlock = some g ∨ w.heap.size ≤ g) (g5 : Fr (fun k => k = p ∨ (Value.slice a rows.length c).ownBlock = some k) w w') :
    RPut w p rows F d (.returned (.tuple #[.int .i64 (rows.length : Int), .int .i64 0])) w' := by
  have hp : putR rows d = ((rows.length : Int), 0, rows ++ [d]) := by simp [putR, hx, hf, hn]
  have hrow : (rows ++ [d]).length = rows.length + 1 := by simp
  have hc : cellsOf (rows ++ [d]) = cellsOf rows ++ d.cells := by rw [cellsOf_append]; simp [cellsOf]
  rw [RPut, hp]
  refine ⟨rfl, ⟨some ⟨g, 0, none⟩, cap, by rw [hrow]; exact g1, by rw [hrow, hc]; exact g2, .inl hFp, ?_⟩, g5.mono ?_⟩
  · intro k hk
    rw [own_eq hk]
    exact g4.imp (hF g) id
  · rintro i _ (rfl | h)
    · exact hFp
    · exact hF i h

set_option maxRecDepth 100000 in
set_option maxHeartbeats 4000000 in
theorem put03 (w : World) (p : Nat) (rows : List Nd) (F : Nat → Prop) (d : Nd) (hT : RT w p rows F) (hl : rows.length ≤ 1024) (hs : d.s.size ≤ 140737488355328) :
    Calls Tryz.prog 55 #[.pointer (some ⟨p, 0, none⟩), d.val] w (RPut w p rows F d) := by
  obtain ⟨a, c, h1, h2, h5, h7⟩ := id hT
  have hp := blk_lt h1
  have c0 : w.cell? ⟨p, 0, none⟩ = some (.slice a rows.length c) := (blk_cell h1 0).trans rfl
  have HT := Lib.hid hT
  have H1 := Lib.hid h1
  have H2 := Lib.hid h2
  have H7 := Lib.hid h7
  clear hT h1 h2 h7
  obtain ⟨k, s, l, r⟩ := d
  simp only [Nd.val]
  have HS := Lib.hid hs
  go_enter Tryz.func55, Tryz.ntmps55
  go_upto_block 0 with fail
  go_cut [] (fun wx => fitsN rows.length ⟨k, s, l, r⟩ = 0 ∧ Below w.heap.size w wx ∧ wx.heap[w.heap.size]? = some (.cells #[.int .i64 k, .string s, .int .i64 l, .int .i64 r] 54 (0, 0)))
  case first =>
    by_cases k1 : k = 1
    · subst k1
      by_cases l0 : l = 0
      · subst l0
        by_cases r0 : r = 0
        · subst r0
          cases hw : wordB s with
            | false =>
              have hf : fitsN rows.length ⟨1, s, 0, 0⟩ = 32 := by simp [fitsN, hw]
              have HF := Lib.hid hf
              clear hf
              have Hw := Lib.hid hw
              clear hw
              go_wp2_with (go_at_call 67; refine (word03 _ _ HS.out).mono ?_; rintro e W ⟨rfl, hb⟩; rw [Hw.out])
              go_ret2; exact RPut.unfit HT.out HF.out (by decide) (below_tail hb)
            | true =>
              have hf : fitsN rows.length ⟨1, s, 0, 0⟩ = 0 := by simp [fitsN, hw]
              have HF := Lib.hid hf
              clear hf
              have Hw := Lib.hid hw
              clear hw
              go_wp2_with (go_at_call 67; refine (word03 _ _ HS.out).mono ?_; rintro e W ⟨rfl, hb⟩; rw [Hw.out])
              go_meet; exact ⟨HF.out, below_tail hb, blk_below' (blk_new w _) hb⟩
        · have hf : fitsN rows.length ⟨1, s, 0, r⟩ = 31 := by simp [fitsN, r0]
          have HF := Lib.hid hf
          clear hf
          have r1 : (r != 0) = true := bne_iff_ne.2 r0
          go_wp2_with fail
          go_ret2; exact RPut.unfit HT.out HF.out (by decide) ((Below.refl _ _).alloc (Nat.le_refl _) _)
      · have hf : fitsN rows.length ⟨1, s, l, r⟩ = 31 := by simp [fitsN, l0]
        have HF := Lib.hid hf
        clear hf
        have l1 : (l != 0) = true := bne_iff_ne.2 l0
        go_wp2_with fail
        go_ret2; exact RPut.unfit HT.out HF.out (by decide) ((Below.refl _ _).alloc (Nat.le_refl _) _)
    · have k1' : (k == 1) = false := beq_eq_false_iff_ne.2 k1
      by_cases k2 : k = 2
      · subst k2
        by_cases s0 : s.toList = []
        · by_cases l0 : l = 0
          · subst l0
            by_cases r0 : r = 0
            · subst r0
              have hf : fitsN rows.length ⟨2, s, 0, 0⟩ = 0 := by simp [fitsN, s0]
              have HF := Lib.hid hf
              clear hf
              go_wp2_with fail
              go_meet; exact ⟨HF.out, ((Below.refl _ _).alloc (Nat.le_refl _) _), (blk_new w _)⟩
            · have hf : fitsN rows.length ⟨2, s, 0, r⟩ = 31 := by simp [fitsN, s0, r0]
              have HF := Lib.hid hf
              clear hf
              have r1 : (r != 0) = true := bne_iff_ne.2 r0
              go_wp2_with fail
              go_ret2; exact RPut.unfit HT.out HF.out (by decide) ((Below.refl _ _).alloc (Nat.le_refl _) _)
          · have hf : fitsN rows.length ⟨2, s, l, r⟩ = 31 := by simp [fitsN, s0, l0]
            have HF := Lib.hid hf
            clear hf
            have l1 : (l != 0) = true := bne_iff_ne.2 l0
            go_wp2_with fail
            go_ret2; exact RPut.unfit HT.out HF.out (by decide) ((Below.refl _ _).alloc (Nat.le_refl _) _)
        · have hf : fitsN rows.length ⟨2, s, l, r⟩ = 31 := by simp [fitsN, s0]
          have HF := Lib.hid hf
          clear hf
          go_wp2_with fail
          go_ret2; exact RPut.unfit HT.out HF.out (by decide) ((Below.refl _ _).alloc (Nat.le_refl _) _)
      · have k2' : (k == 2) = false := beq_eq_false_iff_ne.2 k2
        by_cases k3 : k = 3 ∨ k = 4 ∨ k = 5
        · by_cases s0 : s.toList = []
          · cases hl0 : hasB rows.length l with
            | false =>
              have hf : fitsN rows.length ⟨k, s, l, r⟩ = 31 := by simp [fitsN, k1, k2, k3, s0, hl0]
              have HF := Lib.hid hf
              clear hf
              have Hl := Lib.hid hl0
              skip
              clear hl0
              rcases k3 with rfl | rfl | rfl
              all_goals
                go_wp2_with (go_at_call 22; refine (has03 p a rows.length c _ _ (World.cell?_alloc_past _ _ _ hp ▸ c0)).mono ?_; rintro e w' ⟨rfl, rfl⟩; first | rw [Hl.out] | rw [Hr.out])
                go_ret2; exact RPut.unfit HT.out HF.out (by decide) ((Below.refl _ _).alloc (Nat.le_refl _) _)
            | true =>
              cases hr0 : hasB rows.length r with
              | false =>
                have hf : fitsN rows.length ⟨k, s, l, r⟩ = 31 := by simp [fitsN, k1, k2, k3, s0, hl0, hr0]
                have HF := Lib.hid hf
                clear hf
                have Hl := Lib.hid hl0
                have Hr := Lib.hid hr0
                clear hl0 hr0
                rcases k3 with rfl | rfl | rfl
                all_goals
                  go_wp2_with (go_at_call 22; refine (has03 p a rows.length c _ _ (World.cell?_alloc_past _ _ _ hp ▸ c0)).mono ?_; rintro e w' ⟨rfl, rfl⟩; first | rw [Hl.out] | rw [Hr.out])
                  go_ret2; exact RPut.unfit HT.out HF.out (by decide) ((Below.refl _ _).alloc (Nat.le_refl _) _)
              | true =>
                have hf : fitsN rows.length ⟨k, s, l, r⟩ = 0 := by simp [fitsN, k1, k2, k3, s0, hl0, hr0]
                have HF := Lib.hid hf
                clear hf
                have Hl := Lib.hid hl0
                have Hr := Lib.hid hr0
                clear hl0 hr0
                rcases k3 with rfl | rfl | rfl
                all_goals
                  go_wp2_with (go_at_call 22; refine (has03 p a rows.length c _ _ (World.cell?_alloc_past _ _ _ hp ▸ c0)).mono ?_; rintro e w' ⟨rfl, rfl⟩; first | rw [Hl.out] | rw [Hr.out])
                  go_meet; exact ⟨HF.out, ((Below.refl _ _).alloc (Nat.le_refl _) _), (blk_new w _)⟩
          · have hf : fitsN rows.length ⟨k, s, l, r⟩ = 31 := by simp [fitsN, k1, k2, k3, s0]
            have HF := Lib.hid hf
            clear hf
            rcases k3 with rfl | rfl | rfl
            all_goals
              go_wp2_with fail
              go_ret2; exact RPut.unfit HT.out HF.out (by decide) ((Below.refl _ _).alloc (Nat.le_refl _) _)
        · have hf : fitsN rows.length ⟨k, s, l, r⟩ = 31 := by simp [fitsN, k1, k2, k3]
          have HF := Lib.hid hf
          clear hf
          have k3' : (k == 3) = false := beq_eq_false_iff_ne.2 (fun h => k3 (.inl h))
          have k4' : (k == 4) = false := beq_eq_false_iff_ne.2 (fun h => k3 (.inr (.inl h)))
          have k5' : (k == 5) = false := beq_eq_false_iff_ne.2 (fun h => k3 (.inr (.inr h)))
          clear k1 k2 k3
          go_wp2_with fail
          go_ret2; exact RPut.unfit HT.out HF.out (by decide) ((Below.refl _ _).alloc (Nat.le_refl _) _)
  case rest =>
    obtain ⟨hf, hb, hbox⟩ := hcut
    have HF := Lib.hid hf
    have hsl := Sl.of_own (own_move H2.out (fun q hq => hb.block q (by obtain ⟨cs, hc⟩ := own_typed H2.out q hq; exact blk_lt hc))) (show rows.length ≤ 3518437208883 by omega)
    have e1 := blk_below' H1.out hb
    have HSL := Lib.hid hsl
    have E1 := Lib.hid e1
    have Hbox := Lib.hid hbox
    have HB := Lib.hid hb
    have d0 : wc.cell? ⟨p, 0, none⟩ = some (.slice a rows.length c) := (blk_cell e1 0).trans rfl
    have b0 : wc.cell? ⟨w.heap.size, 0, none⟩ = some (.int .i64 k) := (blk_cell hbox 0).trans rfl
    have b1 : wc.cell? ⟨w.heap.size, 1, none⟩ = some (.string s) := (blk_cell hbox 1).trans rfl
    have b2 : wc.cell? ⟨w.heap.size, 2, none⟩ = some (.int .i64 l) := (blk_cell hbox 2).trans rfl
    have b3 : wc.cell? ⟨w.heap.size, 3, none⟩ = some (.int .i64 r) := (blk_cell hbox 3).trans rfl
    clear hf hsl e1 hbox hb c0
    go_wp2_with fail
    refine (find03 wc p a c rows ⟨k, s, l, r⟩ E1.out HSL.out).mono ?_
    rintro e w2 ⟨he, hb2⟩
    have hbb : Below w.heap.size w w2 := HB.out.trans (hb2.mono HB.out.size)
    have HBB := Lib.hid hbb
    have E2 := Lib.hid (blk_below' E1.out hb2)
    have Bx2 := Lib.hid (blk_below' Hbox.out hb2)
    clear hbb b0 b1 b2 b3 d0 hb2 E1 HSL HB Hbox
    have d0 : w2.cell? ⟨p, 0, none⟩ = some (.slice a rows.length c) := (blk_cell E2.out 0).trans rfl
    cases hfi : findN rows ⟨k, s, l, r⟩ with
    | some i =>
      rw [hfi] at he
      have he' : e = .returned (.tuple #[.int .i64 (i : Int), .bool true]) := he
      subst he'
      have Hfi := Lib.hid hfi
      clear hfi he
      go_wp2_with fail
      go_ret2
      exact RPut.found HT.out HF.out Hfi.out HBB.out
    | none =>
      rw [hfi] at he
      have he' : e = .returned (.tuple #[.int .i64 0, .bool false]) := he
      subst he'
      have Hfi := Lib.hid hfi
      clear hfi he
      by_cases hn : 1024 ≤ rows.length
      · have hn1 : (1024 : Int) ≤ rows.length := by omega
        go_wp2_with fail
        go_ret2
        exact RPut.full HT.out HF.out Hfi.out hn HBB.out
      · have hn1 : ¬ (1024 : Int) ≤ rows.length := by omega
        have b0 : w2.cell? ⟨w.heap.size, 0, none⟩ = some (.int .i64 k) := (blk_cell Bx2.out 0).trans rfl
        have b1 : w2.cell? ⟨w.heap.size, 1, none⟩ = some (.string s) := (blk_cell Bx2.out 1).trans rfl
        have b2 : w2.cell? ⟨w.heap.size, 2, none⟩ = some (.int .i64 l) := (blk_cell Bx2.out 2).trans rfl
        have b3 : w2.cell? ⟨w.heap.size, 3, none⟩ = some (.int .i64 r) := (blk_cell Bx2.out 3).trans rfl
        have hp2 := blk_lt E2.out
        have hq2 := blk_lt Bx2.out
        have HO2 := Lib.hid (own_move H2.out (fun q hq => HBB.out.block q (by obtain ⟨cs, hc⟩ := own_typed H2.out q hq; exact blk_lt hc)))
        have hne : some p ≠ (Value.slice a rows.length c).ownBlock := fun e => by
          obtain ⟨cs, hc⟩ := own_typed HO2.out p e.symm
          rw [E2.out] at hc
          injection hc with hc
          injection hc with _ ht
          exact absurd ht (by decide)
        have Hne := Lib.hid hne
        have Hn := Lib.hid hn
        clear hne hn
        generalize hrn : rows.length = n at *
        have Hrn := Lib.hid hrn
        clear hrn
        go_wp2_with fail
        go_region_law (first
          | (refine step_node rfl _ _ rfl (.slice a n c) n (cellsOf rows) rfl w2.heap.size rfl ⟨k, s, l, r⟩ (own_move HO2.out ?_) ?_ ?_ ?_
             · intro k hk
               exact Below.heap_alloc w2 _ k (by obtain ⟨cs, hc⟩ := own_typed HO2.out k hk; exact blk_lt hc)
             · exact blk_new w2 _
             · omega
             intro g cap w3 hown hgrow hat hlt
             have g1 : w3.heap[p]? = some (.cells #[.slice a n c] 50 (0, 0)) := (hgrow.block p (by simp; omega) Hne.out).trans (blk_alloc E2.out _)
             have q0 : w3.cell? ⟨p, 0, none⟩ = some (.slice a n c) := (blk_cell g1 0).trans rfl
             have q1 : w3.frozen? ⟨p, 0, none⟩ = false := blk_frozen g1 0
             have Hown := Lib.hid hown
             have Hgrow := Lib.hid hgrow
             have Hat := Lib.hid hat
             have G1 := Lib.hid g1
             clear hown hgrow hat g1))
        all_goals
          go_wp2_with fail
          generalize hw4 : World.setCell _ _ _ = w4
          have k1 : w4.heap[p]? = some (.cells #[.slice (some ⟨g, 0, none⟩) (n + 1) cap] 50 (0, 0)) := by rw [← hw4]; exact blk_set G1.out 0 _
          have hgp : g ≠ p := fun e => by
            obtain ⟨cs, hc⟩ := own_typed Hown.out g rfl
            rw [e, G1.out] at hc
            injection hc with hc
            injection hc with _ ht
            exact absurd ht (by decide)
          have ko : w4.ownsRow 0 54 4 (.slice (some ⟨g, 0, none⟩) (n + 1) cap) (n + 1) (cellsOf rows ++ Nd.cells ⟨k, s, l, r⟩) := by
            rw [← hw4]
            exact own_move Hown.out (fun q hq => Below.heap_setCell w3 _ _ q (by rw [own_eq hq]; exact hgp))
          have kf : Fr (fun k => k = p ∨ (Value.slice a n c).ownBlock = some k) w w4 := by
            rw [← hw4]
            refine Fr.setCell (Fr.grown (Fr.drew (Fr.alloc (Fr.of_below HBB.out _) _)) Hgrow.out ?_) _ _ (fun _ => .inl rfl)
            exact fun q hq _ => .inr hq
          have Hfin : Hid (RPut w p rows F ⟨k, s, l, r⟩ (.returned (.tuple #[.int .i64 (n : Int), .int .i64 0])) w4) := by
            have hn := Hrn.out
            subst hn
            refine RPut.new HF.out Hfi.out Hn.out h5 H7.out k1 ko ?_ kf
            have := HBB.out.size
            rcases Hat.out with h | h
            · exact .inl h
            · exact .inr (by rw [h]; simp; omega)
          have c0 : w4.cell? ⟨p, 0, none⟩ = some (.slice (some ⟨g, 0, none⟩) (n + 1) cap) := (blk_cell k1 0).trans rfl
          clear k1 ko kf hgp hw4 q0 q1 d0 b0 b1 b2 b3
          go_wp2_with fail
          go_ret2
          exact Hfin
end Go.Proofs.YtglnmkdlcbkpeaaGreatDoor
/- Tables made of rows: the reference's and the program's From. -/
set_option linter.unusedVariables false
set_option linter.unusedSimpArgs false
namespace Go.Proofs.YtglnmkdlcbkpeaaGreatDoor
open Go.RowKit

def okAt (rows : List Nd) (i : Nat) (h : i < rows.length) : Prop := putR (rows.take i) rows[i] = ((i : Int), 0, rows.take (i + 1))
def okRows (rows : List Nd) : Prop := ∀ i (h : i < rows.length), okAt rows i h

theorem putR_unfit {rs : List Nd} {d : Nd} (h : fitsN rs.length d ≠ 0) : putR rs d = (0, fitsN rs.length d, rs) := by simp [putR, h]
theorem putR_found {rs : List Nd} {d : Nd} {i : Nat} (h : fitsN rs.length d = 0) (hf : findN rs d = some i) : putR rs d = ((i : Int), 0, rs) := by simp [putR, h, hf]
theorem putR_full {rs : List Nd} {d : Nd} (h : fitsN rs.length d = 0) (hf : findN rs d = none) (hn : 1024 ≤ rs.length) : putR rs d = (0, 30, rs) := by simp [putR, h, hf, hn]
theorem putR_new {rs : List Nd} {d : Nd} (h : fitsN rs.length d = 0) (hf : findN rs d = none) (hn : ¬ 1024 ≤ rs.length) : putR rs d = ((rs.length : Int), 0, rs ++ [d]) := by simp [putR, h, hf, hn]
theorem findN_lt {rs : List Nd} {d : Nd} {i : Nat} (h : findN rs d = some i) : ∃ hi : i < rs.length, rs[i] = d := by
  obtain ⟨h1, h2, _⟩ := List.findIdx?_eq_some_iff_getElem.1 h
  exact ⟨h1, (by simpa using h2 : d = rs[i]).symm⟩
theorem putR_ok {rs : List Nd} {d : Nd} (h1 : (putR rs d).2.1 = 0) (h2 : (putR rs d).1 = rs.length) : (putR rs d).2.2 = rs ++ [d] ∧ rs.length < 1024 := by
  by_cases hf : fitsN rs.length d = 0
  · cases hfi : findN rs d with
    | some i =>
      rw [putR_found hf hfi] at h2
      have := (findN_lt hfi).1
      simp only at h2
      omega
    | none =>
      by_cases hn : 1024 ≤ rs.length
      · rw [putR_full hf hfi hn] at h1
        simp at h1
      · rw [putR_new hf hfi hn]
        exact ⟨rfl, by omega⟩
  · rw [putR_unfit hf] at h1
    exact absurd h1 hf
theorem okAt_of {rows : List Nd} {i : Nat} {h : i < rows.length} (h1 : (putR (rows.take i) rows[i]).2.1 = 0) (h2 : (putR (rows.take i) rows[i]).1 = i) : okAt rows i h ∧ i < 1024 := by
  have hl : (rows.take i).length = i := by rw [List.length_take]; omega
  obtain ⟨h3, h4⟩ := putR_ok h1 (by rw [hl]; exact h2)
  refine ⟨?_, by omega⟩
  rw [okAt]
  refine Prod.ext h2 (Prod.ext h1 ?_)
  rw [h3, List.take_succ_eq_append_getElem h]

theorem Fr.toBelow {w w0 w1 : World} {B : Nat} {F : Nat → Prop} (h : Below B w w0) (k : Fr F w0 w1) (hF : ∀ i, F i → B ≤ i) (hB : B ≤ w0.heap.size) : Below B w w1 :=
  ⟨k.os.trans h.os, k.tape.trans h.tape, k.output.trans h.output, Nat.le_trans h.size k.size, fun i hi => (k.block i (by omega) (fun hf => by have := hF i hf; omega)).trans (h.block i hi)⟩

def From03 (w : World) (rows : List Nd) (e : Ending) (w' : World) : Prop :=
  (okRows rows ∧ rows.length ≤ 1024 ∧ e = .returned (.tuple #[.pointer (some ⟨w.heap.size, 0, none⟩), .int .i64 0]) ∧ RT w' w.heap.size rows (fun k => w.heap.size ≤ k) ∧ Below w.heap.size w w') ∨
  (¬ okRows rows ∧ ∃ x : Int, x ≠ 0 ∧ e = .returned (.tuple #[.pointer none, .int .i64 x]) ∧ Below w.heap.size w w')

set_option maxRecDepth 100000 in
set_option maxHeartbeats 2000000 in
theorem from03 (w : World) (a : Option Addr) (c : Nat) (rows : List Nd) (hS : Sl w a rows) (hnm : ∀ d ∈ rows, d.s.size ≤ 140737488355328) :
    Calls Tryz.prog 36 #[.slice a rows.length c] w (From03 w rows) := by
  have hl0 := hS.1
  have HS := Lib.hid hS
  have Hnm := Lib.hid hnm
  clear hS hnm
  go_enter Tryz.func36, Tryz.ntmps36
  go_wp2_with fail
  go_loopw [5] (fun v wr => ∃ i : Nat, i ≤ rows.length ∧ i ≤ 1024 ∧ v = .int .i64 i ∧ RT wr w.heap.size (rows.take i) (fun k => w.heap.size ≤ k) ∧ Below w.heap.size w wr ∧ (∀ j (h : j < rows.length), j < i → okAt rows j h)) (fun v _ => rows.length - (intOf v).toNat)
  case atStart =>
    refine ⟨0, by omega, by omega, rfl, ⟨none, 0, by simpa using blk_new w _, ⟨rfl, .inl ⟨rfl, rfl⟩⟩, Nat.le_refl _, fun k hk => by simp [Value.ownBlock] at hk⟩, (Below.refl _ _).alloc (Nat.le_refl _) _, fun j h hj => by omega⟩
  case round =>
    obtain ⟨i, hi, hi2, rfl, hT, hb, hok⟩ := hrel
    have HT := Lib.hid hT
    have HB := Lib.hid hb
    have Hok := Lib.hid hok
    have hsz := hb.size
    clear hT hb hok
    obtain ⟨wo, rfl⟩ : ∃ wo : World, wo = wr := ⟨_, rfl⟩
    by_cases hlt : i < rows.length
    · obtain ⟨b, off, rfl, hbl, e0, e1, e2, e3⟩ := (HS.out.below HB.out).at_ i hlt
      have Hd := Lib.hid (Hnm.out rows[i] (List.getElem_mem hlt))
      have Hoki := Lib.hid (Iff.refl (okAt rows i hlt))
      go_wp2_with fail
      refine (put03 wo w.heap.size (rows.take i) _ rows[i] HT.out (by rw [List.length_take]; omega) Hd.out).mono ?_
      rintro e w2 ⟨he, hT2, hfr⟩
      have hszw := hfr.size
      have hb2 : Below w.heap.size w w2 := Fr.toBelow HB.out hfr (fun _ h => h) hsz
      have hT3 : RT w2 w.heap.size (putR (rows.take i) rows[i]).2.2 (fun k => w.heap.size ≤ k) := hT2.mono (fun k hk => hk.elim id (fun h => by omega))
      have HT3 := Lib.hid hT3
      have HB2 := Lib.hid hb2
      clear hT2 hfr hb2 hT3 e0 e1 e2 e3
      by_cases hE : (putR (rows.take i) rows[i]).2.1 = 0
      · by_cases hK : (putR (rows.take i) rows[i]).1 = i
        · obtain ⟨hk, hi3⟩ := okAt_of hE hK
          have hk' := hk
          rw [okAt] at hk'
          have HT4 : Hid (RT w2 w.heap.size (rows.take (i + 1)) (fun k => w.heap.size ≤ k)) := by
            have := HT3.out
            rw [hk'] at this
            exact this
          have Hk := Lib.hid hk
          rw [hk'] at he
          clear hk hk' hE hK HT3
          subst he
          go_wp2_with fail
          go_roundw
          case rel =>
            refine ⟨i + 1, by omega, by omega, by go_num, HT4.out, HB2.out, fun j hj hji => ?_⟩
            by_cases e : j = i
            · subst e; exact Hk.out
            · exact Hok.out j hj (by omega)
          case measure => simp [intOf]; omega
        · have hno : Hid (¬ okRows rows) := fun h => hK (by have := h i hlt; rw [okAt] at this; rw [this])
          rw [hE] at he
          generalize (putR (rows.take i) rows[i]).1 = K at *
          subst he
          have hK1 : (K != (i : Int)) = true := bne_iff_ne.2 hK
          clear hK hE HT3
          go_wp2_with fail
          go_ret2
          exact .inr ⟨hno.out, 31, by decide, rfl, HB2.out⟩
      · have hno : Hid (¬ okRows rows) := fun h => hE (by have := h i hlt; rw [okAt] at this; rw [this])
        generalize (putR (rows.take i) rows[i]).2.1 = E at *
        subst he
        have hE1 : (E != 0) = true := bne_iff_ne.2 hE
        have HE := Lib.hid hE
        clear HT3 hE
        go_wp2_with fail
        go_ret2
        exact .inr ⟨hno.out, E, HE.out, rfl, HB2.out⟩
    · have hile : i = rows.length := by omega
      have HT4 : Hid (RT wo w.heap.size rows (fun k => w.heap.size ≤ k)) := by
        have := HT.out
        rw [hile, List.take_length] at this
        exact this
      have Hok2 : Hid (okRows rows) := fun j hj => Hok.out j hj (by omega)
      clear hile
      go_wp2_with fail
      go_ret2
      exact .inl ⟨Hok2.out, by omega, rfl, HT4.out, HB.out⟩

def FromF (w : World) (rows : List Nd) (e : Ending) (w' : World) : Prop :=
  ∃ p, w.heap.size ≤ p ∧ e = .returned (.tuple #[.pointer (some ⟨p, 0, none⟩), .int .i64 0]) ∧ Tab w' p rows (fun k => w.heap.size ≤ k) ∧ Below w.heap.size w w'

set_option maxRecDepth 100000 in
set_option maxHeartbeats 2000000 in
theorem fromF (w : World) (a : Option Addr) (c : Nat) (rows : List Nd) (hS : Sl w a rows) (hnm : ∀ d ∈ rows, d.s.size ≤ 140737488355328) (hr : okRows rows) (h1024 : rows.length ≤ 1024) :
    Calls Tryz.prog 37 #[.slice a rows.length c] w (FromF w rows) := by
  have hl0 := hS.1
  have HS := Lib.hid hS
  have Hnm := Lib.hid hnm
  have Hr := Lib.hid hr
  clear hS hnm hr
  go_enter Tryz.func37, Tryz.ntmps37
  go_wp2_with fail
  refine (new_any w).mono ?_
  rintro e w1 ⟨rfl, hT0, hb0⟩
  have HT0 := Lib.hid hT0
  have HB0 := Lib.hid hb0
  clear hT0 hb0
  go_wp2_with fail
  go_loopw [12] (fun v wr => ∃ i : Nat, i ≤ rows.length ∧ v = .int .i64 i ∧ Tab wr (w.heap.size + 1) (rows.take i) (fun k => w.heap.size ≤ k) ∧ Below w.heap.size w wr) (fun v _ => rows.length - (intOf v).toNat)
  case atStart => exact ⟨0, by omega, rfl, HT0.out, HB0.out⟩
  case round =>
    obtain ⟨i, hi, rfl, hT, hb⟩ := hrel
    have HT := Lib.hid hT
    have HB := Lib.hid hb
    have hsz := hb.size
    clear hT hb
    obtain ⟨wo, rfl⟩ : ∃ wo : World, wo = wr := ⟨_, rfl⟩
    by_cases hlt : i < rows.length
    · obtain ⟨b, off, rfl, hbl, e0, e1, e2, e3⟩ := (HS.out.below HB.out).at_ i hlt
      have Hd := Lib.hid (Hnm.out rows[i] (List.getElem_mem hlt))
      have Hk := Lib.hid (show putR (rows.take i) rows[i] = ((i : Int), 0, rows.take (i + 1)) from Hr.out i hlt)
      have hil : (rows.take i).length ≤ 1024 := by rw [List.length_take]; omega
      have Hil := Lib.hid hil
      clear hil
      generalize rows[i] = d at *
      go_wp2_with fail
      have hT1 := (Tab.below HT.out ((Below.refl _ _).alloc (Nat.le_refl _) (.cells #[.int .i64 d.k, .string d.s, .int .i64 d.l, .int .i64 d.r] 54)))
      refine (put_tab _ (w.heap.size + 1) (rows.take i) _ d hT1 Hil.out Hd.out).mono ?_
      rintro e w2 ⟨he, hT2, hfr⟩
      rw [Hk.out] at he hT2
      subst he
      have hszw := hfr.size
      have HB2 : Hid (Below w.heap.size w w2) := Fr.toBelow (HB.out.alloc hsz _) hfr (fun _ h => h) (by simp; omega)
      have HT3 : Hid (Tab w2 (w.heap.size + 1) (rows.take (i + 1)) (fun k => w.heap.size ≤ k)) := hT2.mono (fun k hk => hk.elim id (fun h => by simp at h; omega))
      clear hT1 hT2 hfr e0 e1 e2 e3
      go_wp2_with fail
      go_roundw
      case rel => exact ⟨i + 1, by omega, by go_num, HT3.out, HB2.out⟩
      case measure => simp [intOf]; omega
    · have hile : i = rows.length := by omega
      have HT4 : Hid (Tab wo (w.heap.size + 1) rows (fun k => w.heap.size ≤ k)) := by
        have := HT.out
        rw [hile, List.take_length] at this
        exact this
      clear hile
      go_wp2_with fail
      go_ret2
      exact ⟨_, by omega, rfl, HT4.out, HB.out⟩
end Go.Proofs.YtglnmkdlcbkpeaaGreatDoor
