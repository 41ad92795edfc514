/-
  Package token: what its letters, runs and cursor answer, for texts within Go's reach.
-/
import Derived.Test.YtglnmkdlcbkpeaaGreatDoorGF
/- token: leaf functions. -/
set_option linter.unusedVariables false
set_option linter.unusedSimpArgs false
namespace Go.Proofs.YtglnmkdlcbkpeaaGreatDoor
open Go.RowKit

def isDig (c : Nat) : Prop := 48 ≤ c ∧ c ≤ 57
instance (c : Nat) : Decidable (isDig c) := by unfold isDig; infer_instance
def isLtr (c : Nat) : Prop := (97 ≤ c ∧ c ≤ 122) ∨ (65 ≤ c ∧ c ≤ 90) ∨ c = 95
instance (c : Nat) : Decidable (isLtr c) := by unfold isLtr; infer_instance
def isTail (c : Nat) : Prop := isLtr c ∨ isDig c ∨ c = 39
instance (c : Nat) : Decidable (isTail c) := by unfold isTail; infer_instance

theorem digit_any (c : Nat) (w : World) (hc : c < 256) : Calls Tryz.prog 75 #[.int .u8 c] w fun e w' => e = .returned (.bool (decide (isDig c))) ∧ w = w' := by
  by_cases hl : isDig c
  · rw [decide_eq_true hl]
    unfold isDig at hl
    go_enter Tryz.func75, Tryz.ntmps75
    go_wp2_with fail
    all_goals first
      | (exfalso; go_light; omega)
      | (go_ret; exact ⟨ret_bool (by go_light; first | rfl | (simp; omega)), rfl⟩)
  · rw [decide_eq_false hl]
    unfold isDig at hl
    go_enter Tryz.func75, Tryz.ntmps75
    go_wp2_with fail
    all_goals first
      | (exfalso; go_light; omega)
      | (go_ret; exact ⟨ret_bool (by go_light; first | rfl | (simp; omega)), rfl⟩)

theorem or32_nat (c : Nat) (hc : c < 256) : Go.bits .or .u8 (c : Int) 32 = ((c ||| 32 : Nat) : Int) := by
  have : ∀ n : Fin 256, Go.bits .or .u8 ((n.val : Nat) : Int) 32 = ((n.val ||| 32 : Nat) : Int) := by decide +kernel
  exact this ⟨c, hc⟩
theorem or32_let (c : Nat) (hc : c < 256) : (97 ≤ c ||| 32 ∧ c ||| 32 ≤ 122) ↔ ((97 ≤ c ∧ c ≤ 122) ∨ (65 ≤ c ∧ c ≤ 90)) := by
  have h : ∀ n : Fin 256, (decide (97 ≤ n.val ||| 32 ∧ n.val ||| 32 ≤ 122)) = decide ((97 ≤ n.val ∧ n.val ≤ 122) ∨ (65 ≤ n.val ∧ n.val ≤ 90)) := by decide +kernel
  exact decide_eq_decide.1 (h ⟨c, hc⟩)
theorem letter_any (c : Nat) (w : World) (hc : c < 256) : Calls Tryz.prog 72 #[.int .u8 c] w fun e w' => e = .returned (.bool (decide (isLtr c))) ∧ w = w' := by
  have ho := or32_nat c hc
  have Hi := Lib.hid (or32_let c hc)
  by_cases hl : isLtr c
  · rw [decide_eq_true hl]
    have Hl := Lib.hid hl
    clear hl
    go_enter Tryz.func72, Tryz.ntmps72
    go_wp2_with fail
    all_goals first
      | (exfalso; have h1 := Hi.out; have h2 := Hl.out; unfold isLtr at h2; go_light; omega)
      | (go_ret; exact ⟨ret_bool (by have h1 := Hi.out; have h2 := Hl.out; unfold isLtr at h2; go_light; first | rfl | (simp; omega)), rfl⟩)
  · rw [decide_eq_false hl]
    have Hl := Lib.hid hl
    clear hl
    go_enter Tryz.func72, Tryz.ntmps72
    go_wp2_with fail
    all_goals first
      | (exfalso; have h1 := Hi.out; have h2 := Hl.out; unfold isLtr at h2; go_light; omega)
      | (go_ret; exact ⟨ret_bool (by have h1 := Hi.out; have h2 := Hl.out; unfold isLtr at h2; go_light; first | rfl | (simp; omega)), rfl⟩)

theorem tail_any (c : Nat) (w : World) (hc : c < 256) : Calls Tryz.prog 74 #[.int .u8 c] w fun e w' => e = .returned (.bool (decide (isTail c))) ∧ w = w' := by
  by_cases h1 : isLtr c
  · have hd := Lib.hid (decide_eq_true h1)
    rw [decide_eq_true (show isTail c from .inl h1)]
    clear h1
    go_enter Tryz.func74, Tryz.ntmps74
    go_wp2_with (go_at_call 72; refine (letter_any _ _ hc).mono ?_; rintro e w' ⟨rfl, rfl⟩; rw [hd.out])
    go_ret
    exact ⟨rfl, rfl⟩
  · have hd := Lib.hid (decide_eq_false h1)
    by_cases h2 : isDig c
    · have hd2 := Lib.hid (decide_eq_true h2)
      rw [decide_eq_true (show isTail c from .inr (.inl h2))]
      clear h1 h2
      go_enter Tryz.func74, Tryz.ntmps74
      go_wp2_with (first | (go_at_call 72; refine (letter_any _ _ hc).mono ?_; rintro e w' ⟨rfl, rfl⟩; rw [hd.out]) | (go_at_call 75; refine (digit_any _ _ hc).mono ?_; rintro e w' ⟨rfl, rfl⟩; rw [hd2.out]))
      go_ret
      exact ⟨rfl, rfl⟩
    · have hd2 := Lib.hid (decide_eq_false h2)
      have he : decide (isTail c) = decide (c = 39) := by rw [decide_eq_decide]; unfold isTail; simp [h1, h2]
      rw [he]
      clear he h1 h2
      go_enter Tryz.func74, Tryz.ntmps74
      go_wp2_with (first | (go_at_call 72; refine (letter_any _ _ hc).mono ?_; rintro e w' ⟨rfl, rfl⟩; rw [hd.out]) | (go_at_call 75; refine (digit_any _ _ hc).mono ?_; rintro e w' ⟨rfl, rfl⟩; rw [hd2.out]))
      go_ret
      refine ⟨ret_bool ?_, rfl⟩
      rw [Bool.eq_iff_iff]
      simp
      omega

def runP (p : Nat → Bool) (l : List UInt8) : Nat := (l.takeWhile fun c => p c.toNat).length
theorem runP_cons (p : Nat → Bool) (c : UInt8) (l : List UInt8) : runP p (c :: l) = if p c.toNat then runP p l + 1 else 0 := by
  unfold runP
  rw [List.takeWhile_cons]
  split <;> simp
theorem runP_at (p : Nat → Bool) (s : ByteArray) (k : Nat) (h : k < s.size) : runP p (s.data.toList.drop k) = if p s[k].toNat then runP p (s.data.toList.drop (k + 1)) + 1 else 0 := by
  rw [List.drop_eq_getElem_cons (by simpa using h), runP_cons]
  rfl

set_option maxHeartbeats 1000000 in
theorem run_any (s : ByteArray) (F : FuncId) (p : Nat → Bool) (w : World) (hs : s.size ≤ 140737488355328) (hen : ∀ args W, (callFunc F args).run Tryz.prog W = .ok (.enter F args) W)
    (hF : ∀ (c : Nat) (W : World), c < 256 → Calls Tryz.prog F #[.int .u8 c] W fun e w' => e = .returned (.bool (p c)) ∧ W = w') :
    Calls Tryz.prog 73 #[.string s, .func (.func F) #[] #[]] w fun e w' => e = .returned (.int .i64 (runP p s.data.toList)) ∧ w = w' := by
  have HF := Lib.hid hF
  clear hF
  go_enter Tryz.func73, Tryz.ntmps73
  go_wp2_with fail
  go_loop [5] (fun i => ∃ k : Nat, k ≤ s.size ∧ i = .int .i64 k ∧ runP p s.data.toList = runP p (s.data.toList.drop k) + k) (fun i => s.size - (intOf i).toNat)
  case atStart => exact ⟨0, Nat.zero_le _, rfl, rfl⟩
  case round =>
    obtain ⟨k, hk, rfl, hw⟩ := hrel
    have Hw := Lib.hid hw
    clear hw
    by_cases hlt : k < s.size
    · have Hs := Lib.hid (runP_at p s k hlt)
      have hb : s[k].toNat < 256 := s[k].toNat_lt
      go_wp2_with fail
      refine (HF.out _ _ hb).mono ?_
      rintro e w' ⟨rfl, rfl⟩
      cases hp : p s[k].toNat with
      | true =>
        have Hs2 := Lib.hid (show runP p s.data.toList = runP p (s.data.toList.drop (k + 1)) + (k + 1) by rw [Hw.out, Hs.out, hp]; simp; omega)
        clear hp
        go_wp2_with fail
        exact ⟨⟨k + 1, by omega, by go_num, Hs2.out⟩, by simp [intOf]; omega⟩
      | false =>
        have Hs2 := Lib.hid (show runP p s.data.toList = k by rw [Hw.out, Hs.out, hp]; simp)
        clear hp
        go_wp2_with fail
        go_ret
        exact ⟨by rw [Hs2.out]; rfl, rfl⟩
    · have Hs2 := Lib.hid (show runP p s.data.toList = k by rw [Hw.out, List.drop_of_length_le (by simp; show s.size ≤ k; omega)]; simp [runP])
      go_wp2_with fail
      go_ret
      exact ⟨by rw [Hs2.out]; rfl, rfl⟩
end Go.Proofs.YtglnmkdlcbkpeaaGreatDoor
