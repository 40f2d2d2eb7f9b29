/- The evaluator's answer does not hang on the fuel.
   Conditions: none; plain lemmas. -/
import Derived.Test.YtlliieplgdlldaaEvQ
namespace Go.Ev

structure Mono (E : Env) (n : Nat) : Prop where
  ins : ∀ i T H r, evIns E n i T H = some r → evIns E (n + 1) i T H = some r
  reg : ∀ is T H r, evReg E n is T H = some r → evReg E (n + 1) is T H = some r
  heads : ∀ j imp is T H r, evHeads E n j imp is T H = some r → evHeads E (n + 1) j imp is T H = some r
  chain : ∀ j ch is T H r, evC E n j ch is T H = some r → evC E (n + 1) j ch is T H = some r
  code : ∀ a T H r, evCode E n a T H = some r → evCode E (n + 1) a T H = some r
  call : ∀ f as H r, evCall E n f as H = some r → evCall E (n + 1) f as H = some r

theorem mono (E : Env) : ∀ n, Mono E n
  | 0 => by
    constructor <;> intros <;> simp_all [evIns, evReg, evHeads, evC, evCode, evCall]
  | n + 1 => by
    have ih := mono E n
    constructor
    · intro i T H r h
      cases hp : evP T i.op with
      | some v => simp only [evIns, hp] at h ⊢; exact h
      | none =>
        simp only [evIns, hp] at h ⊢
        split at h
        · split at h
          · exact ih.call _ _ _ _ h
          · cases h
        · split at h
          · exact ih.call _ _ _ _ h
          · cases h
        · exact h
    · intro is T H r h
      cases is with
      | nil => simpa only [evReg] using h
      | cons i is =>
        simp only [evReg] at h ⊢
        cases hw : wanted T i.guard with
        | none => rw [hw] at h; cases h
        | some b =>
          rw [hw] at h
          cases b with
          | false => exact ih.reg _ _ _ _ h
          | true =>
            simp only at h ⊢
            split at h
            · cases h
            · rename_i v hv
              rw [ih.ins _ _ _ _ hv]
              exact ih.reg _ _ _ _ h
            · rename_i v H' hv
              rw [ih.ins _ _ _ _ hv]
              exact ih.reg _ _ _ _ h
    · intro j imp is T H r h
      cases is with
      | nil => simpa only [evHeads] using h
      | cons i is =>
        simp only [evHeads] at h ⊢
        cases hw : wanted T i.guard with
        | none => rw [hw] at h; cases h
        | some b =>
          rw [hw] at h
          cases b with
          | false => exact ih.heads _ _ _ _ _ _ h
          | true =>
            simp only at h ⊢
            split at h
            · rename_i hc
              simp only [hc, if_true]
              split at h
              · rename_i v hv
                rw [ih.ins _ _ _ _ hv]
                exact ih.heads _ _ _ _ _ _ h
              · cases h
            · rename_i hc
              rw [if_neg hc]
              split at h
              · rename_i v hv
                exact ih.heads _ _ _ _ _ _ h
              · cases h
    · intro j ch is T H r h
      cases is with
      | nil => simpa only [evC] using h
      | cons i is =>
        simp only [evC] at h ⊢
        cases hw : wanted T i.guard with
        | none => rw [hw] at h; cases h
        | some b =>
          rw [hw] at h
          cases b with
          | false => exact ih.chain _ _ _ _ _ _ h
          | true =>
            simp only at h ⊢
            split at h
            · rename_i hc
              simp only [hc, if_true]
              split at h
              · cases h
              · rename_i v hv
                rw [ih.ins _ _ _ _ hv]
                exact ih.chain _ _ _ _ _ _ h
              · rename_i v H' hv
                rw [ih.ins _ _ _ _ hv]
                exact ih.chain _ _ _ _ _ _ h
            · rename_i hc
              rw [if_neg hc]
              split at h
              · rename_i v hv
                exact ih.chain _ _ _ _ _ _ h
              · cases h
    · intro a T H r h
      cases a with
      | skip => simpa only [evCode] using h
      | exit id => simpa only [evCode] using h
      | ret => simpa only [evCode] using h
      | reg ops keep =>
        simp only [evCode] at h ⊢
        split at h
        · rename_i T' H' hr
          rw [ih.reg _ _ _ _ hr]; exact h
        · cases h
      | draw ops head imp keep =>
        simp only [evCode] at h ⊢
        split at h
        · rename_i T1 hh
          rw [ih.heads _ _ _ _ _ _ hh]
          simp only
          split at h
          · rename_i T' H' hr
            rw [ih.reg _ _ _ _ hr]; exact h
          · cases h
        · cases h
      | drawA ops head al keep =>
        simp only [evCode] at h ⊢
        split at h
        · rename_i T1 bs hh
          split at h
          · rename_i T' H' hr
            rw [ih.reg _ _ _ _ hr]; exact h
          · cases h
        · cases h
      | drawC ops ch keep =>
        simp only [evCode] at h ⊢
        split at h
        · rename_i T' H' hr
          rw [ih.chain _ _ _ _ _ _ hr]; exact h
        · cases h
      | seq a b =>
        simp only [evCode] at h ⊢
        split at h
        · rename_i T' H' hr
          rw [ih.code _ _ _ _ hr]; exact ih.code _ _ _ _ h
        · rename_i hne
          rw [ih.code _ _ _ _ h]
          obtain ⟨x, T', H'⟩ := r
          cases x with
          | normal => exact absurd h (hne _ _)
          | exit id => rfl
          | ret => rfl
      | cond c a b =>
        simp only [evCode] at h ⊢
        split at h
        · exact ih.code _ _ _ _ h
        · exact ih.code _ _ _ _ h
        · cases h
      | block id a =>
        simp only [evCode] at h ⊢
        split at h
        · rename_i j T' H' hr
          rw [ih.code _ _ _ _ hr]; exact h
        · rename_i hne
          rw [ih.code _ _ _ _ h]
          obtain ⟨x, T', H'⟩ := r
          cases x with
          | normal => rfl
          | exit id => exact absurd h (hne _ _ _)
          | ret => rfl
      | loop a =>
        simp only [evCode] at h ⊢
        split at h
        · rename_i T' H' hr
          rw [ih.code _ _ _ _ hr]; exact ih.code _ _ _ _ h
        · rename_i hne
          rw [ih.code _ _ _ _ h]
          obtain ⟨x, T', H'⟩ := r
          cases x with
          | normal => exact absurd h (hne _ _)
          | exit id => rfl
          | ret => rfl
      | scope a =>
        simp only [evCode] at h ⊢
        exact ih.code _ _ _ _ h
      | frz t a =>
        simp only [evCode] at h ⊢
        split at h
        · split at h
          · exact ih.code _ _ _ _ h
          · cases h
        · cases h
      | frzA a t =>
        simp only [evCode] at h ⊢
        split at h
        · rename_i T' H' hr
          rw [ih.code _ _ _ _ hr]; exact h
        · rename_i hne
          rw [ih.code _ _ _ _ h]
          obtain ⟨x, T', H'⟩ := r
          cases x with
          | normal => exact absurd h (hne _ _)
          | exit id => rfl
          | ret => rfl
    · intro f as H r h
      simp only [evCall] at h ⊢
      split at h
      · exact h
      · split at h
        · cases h
        · split at h
          · rename_i hl
            rw [if_pos hl]
            split at h
            · rename_i x T' H' hr
              rw [ih.code _ _ _ _ hr]; exact h
            · cases h
          · cases h

theorem mono_code {E : Env} {n m : Nat} (hm : n ≤ m) {a T H r} (h : evCode E n a T H = some r) : evCode E m a T H = some r := by
  obtain ⟨k, rfl⟩ := Nat.le.dest hm
  induction k with
  | zero => exact h
  | succ k ih => exact (mono E _).code _ _ _ _ (ih (by omega))
theorem mono_reg {E : Env} {n m : Nat} (hm : n ≤ m) {a T H r} (h : evReg E n a T H = some r) : evReg E m a T H = some r := by
  obtain ⟨k, rfl⟩ := Nat.le.dest hm
  induction k with
  | zero => exact h
  | succ k ih => exact (mono E _).reg _ _ _ _ (ih (by omega))
theorem mono_ins {E : Env} {n m : Nat} (hm : n ≤ m) {a T H r} (h : evIns E n a T H = some r) : evIns E m a T H = some r := by
  obtain ⟨k, rfl⟩ := Nat.le.dest hm
  induction k with
  | zero => exact h
  | succ k ih => exact (mono E _).ins _ _ _ _ (ih (by omega))
theorem mono_heads {E : Env} {n m : Nat} (hm : n ≤ m) {j i a T H r} (h : evHeads E n j i a T H = some r) : evHeads E m j i a T H = some r := by
  obtain ⟨k, rfl⟩ := Nat.le.dest hm
  induction k with
  | zero => exact h
  | succ k ih => exact (mono E _).heads _ _ _ _ _ _ (ih (by omega))
theorem mono_chain {E : Env} {n m : Nat} (hm : n ≤ m) {j i a T H r} (h : evC E n j i a T H = some r) : evC E m j i a T H = some r := by
  obtain ⟨k, rfl⟩ := Nat.le.dest hm
  induction k with
  | zero => exact h
  | succ k ih => exact (mono E _).chain _ _ _ _ _ _ (ih (by omega))
theorem mono_call {E : Env} {n m : Nat} (hm : n ≤ m) {f a H r} (h : evCall E n f a H = some r) : evCall E m f a H = some r := by
  obtain ⟨k, rfl⟩ := Nat.le.dest hm
  induction k with
  | zero => exact h
  | succ k ih => exact (mono E _).call _ _ _ _ (ih (by omega))
end Go.Ev
