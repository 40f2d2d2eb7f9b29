/- Regions whose operations the model carries out in an order that it draws: whatever the order, they come to what the evaluator says.
   Conditions: the region's edges are as 'fitD' asks. -/
import Derived.Test.YtlliieplgdlldaaEvR
namespace Go.Ev

def DrawOk (P : Program) (E : Env) (n : Nat) : Prop :=
  ∀ (is : List Ins) (head : Nat) (imp : List Nat) (T : Tm) (H : Heap) (T1 T2 : Tm) (H' : Heap), evHeads E n 0 imp (is.take head) T H = some T1 → evReg E n (is.drop head) T1 H = some (T2, H') →
    ∀ (N : Nat) (ops : Array Oper), fitD P N ops is head imp = true → ∀ (e : Fr) (t : Nat) (k : List Item) (cs : List Frame) (w : World) (mu : List Nat) (tmps : Array Value), tmps.size = N → R mu H.blks w → RelT (ctx mu H.blks w) T tmps →
      ∃ mu' tmps' w', Steps P (lone (mkF e tmps (.inRegion ops (Region.schedule (P.follows .mixedOrders) ops t) :: k)) cs w) (lone (mkF e tmps' (.inRegion ops [] :: k)) cs w') ∧
        Ext (ctx mu H.blks w) (ctx mu' H'.blks w') ∧ R mu' H'.blks w' ∧ RelT (ctx mu' H'.blks w') T2 tmps' ∧ tmps'.size = N ∧ Keeps H H'

theorem trace {E : Env} {n head : Nat} {imp : List Nat} {is : List Ins} {T T1 T2 : Tm} {H H' : Heap} (h1 : evHeads E n 0 imp (is.take head) T H = some T1) (h2 : evReg E n (is.drop head) T1 H = some (T2, H')) (hl : head ≤ is.length) :
    ∃ (Tn : Nat → Tm) (Hn : Nat → Heap) (r : Nat → V), Tn 0 = T ∧ (∀ i, i ≤ head → Hn i = H) ∧ Tn is.length = T2 ∧ Hn is.length = H' ∧ ∀ i x, is[i]? = some x → StepF E n head imp i x (Tn i) (Tn (i + 1)) (Hn i) (Hn (i + 1)) (r i) := by
  obtain ⟨TA, ra, a1, a2, a3⟩ := tr_heads (head := head) (imp := imp) h1 (by simp; omega)
  obtain ⟨TB, HB, rb, b1, b2, b3, b4, b5⟩ := tr_regs (head := head) (imp := imp) h2 (Nat.le_refl head)
  have hta : (is.take head).length = head := by simp; omega
  rw [hta] at a2
  refine ⟨fun i => if i < head then TA i else TB (i - head), fun i => if i < head then H else HB (i - head), fun i => if i < head then ra i else rb (i - head), ?_, ?_, ?_, ?_, ?_⟩
  · simp only
    split
    · exact a1
    · have : head = 0 := by omega
      subst this
      rw [b1, ← a2, a1]
  · intro i hi
    simp only
    split
    · rfl
    · rw [show i - head = 0 by omega, b2]
  · simp only
    rw [if_neg (by omega)]
    simpa using b3
  · simp only
    rw [if_neg (by omega)]
    simpa using b4
  · intro i x hx
    simp only
    by_cases hi : i < head
    · rw [if_pos hi, if_pos hi, if_pos hi]
      have h3 := a3 i x (by rw [List.getElem?_take, if_pos hi]; exact hx)
      rw [Nat.zero_add] at h3
      by_cases hi1 : i + 1 < head
      · rw [if_pos hi1, if_pos hi1]
        exact h3
      · rw [if_neg hi1, if_neg hi1, show i + 1 - head = 0 by omega, b1, b2, ← a2]
        rw [show i + 1 = head by omega] at h3
        exact h3
    · rw [if_neg hi, if_neg hi, if_neg hi, if_neg (by omega), if_neg (by omega)]
      have h3 := b5 (i - head) x (by rw [List.getElem?_drop]; rw [show head + (i - head) = i by omega]; exact hx)
      rw [show head + (i - head) = i by omega] at h3
      rw [show i + 1 - head = i - head + 1 by omega]
      exact h3

theorem get_keep_mem {t : Nat} {T : Tm} : ∀ {l : List Nat}, t ∈ l → (T.keep l).get t = T.get t
  | [], ht => by simp at ht
  | a :: l, ht => by
    simp only [Tm.keep]
    split
    · rename_i u hu
      simp only [Tm.get]
      split
      · rename_i e
        rw [← e, hu]
      · rename_i e
        exact get_keep_mem (by simpa [Ne.symm e] using ht)
    · rename_i hu
      by_cases e : a = t
      · subst e
        rw [hu]
        cases hk : (T.keep l).get a with
        | none => rfl
        | some v => rw [get_keep hk] at hu; cases hu
      · exact get_keep_mem (by simpa [Ne.symm e] using ht)

theorem get_keep_in {t : Nat} {v : V} {T : Tm} : ∀ {l : List Nat}, (T.keep l).get t = some v → t ∈ l
  | [], h => by simp [Tm.keep, Tm.get] at h
  | a :: l, h => by
    simp only [Tm.keep] at h
    split at h
    · simp only [Tm.get] at h
      split at h
      · rename_i e
        rw [← e]
        simp
      · exact List.mem_cons_of_mem _ (get_keep_in h)
    · exact List.mem_cons_of_mem _ (get_keep_in h)

section
variable {P : Program} {E : Env} {ops : Array Oper} {is : List Ins} {A : List (List Nat)} {listed : Array Bool}

theorem preds_lt (hA : ancOk A ops = true) {j : Nat} {o : Oper} (ho : ops[j]? = some o) {d : Nat} (hd : d ∈ preds o) : d < j := by
  have hj : j < ops.size := (Array.getElem?_eq_some_iff.1 ho).1
  unfold ancOk at hA
  rw [List.all_eq_true] at hA
  have := hA j (by simpa using hj)
  rw [ho] at this
  simp only [Bool.and_eq_true, List.all_eq_true, decide_eq_true_eq] at this
  exact this.1 d hd

theorem anc_listed (hA : ancOk A ops = true) (hdown : ∀ (j : Nat) (o : Oper), listed.getD j false = true → ops[j]? = some o → ∀ d, d ∈ preds o → listed.getD d false = true) :
    ∀ (j : Nat) (o : Oper), ops[j]? = some o → (∀ d, d ∈ preds o → listed.getD d false = true) → ∀ i, (A.getD j []).contains i = true → listed.getD i false = true := by
  intro j
  induction j using Nat.strongRecOn with
  | _ j ih =>
    intro o ho hp i hi
    have hj : j < ops.size := (Array.getElem?_eq_some_iff.1 ho).1
    have hA' := hA
    unfold ancOk at hA'
    rw [List.all_eq_true] at hA'
    have := hA' j (by simpa using hj)
    rw [ho] at this
    simp only [Bool.and_eq_true, List.all_eq_true, decide_eq_true_eq, List.any_eq_true, Bool.or_eq_true] at this
    obtain ⟨d, hd, hdi⟩ := this.2 i (by simpa using hi)
    rcases hdi with rfl | hdi
    · exact hp _ hd
    · have hlt := this.1 d hd
      have hds : d < ops.size := by omega
      exact ih d hlt _ (Array.getElem?_eq_getElem hds) (fun d' hd' => hdown d _ (hp d hd) (Array.getElem?_eq_getElem hds) d' hd') i hdi

theorem ready_spec {i : Nat} (h : i ∈ Region.ready .any ops listed) (hs : listed.size = ops.size) : ∃ o, ops[i]? = some o ∧ i < ops.size ∧ listed.getD i false = false ∧ ∀ d, d ∈ preds o → listed.getD d false = true := by
  unfold Region.ready at h
  simp only [List.mem_filter, List.mem_range, Bool.and_eq_true, Bool.not_eq_true'] at h
  obtain ⟨h1, h2, h3⟩ := h
  refine ⟨ops[i], Array.getElem?_eq_getElem h1, h1, ?_, fun d hd => ?_⟩
  · have : i < listed.size := by omega
    simp [Array.getD, this] at h2 ⊢
    exact h2
  · rw [Array.getElem?_eq_getElem h1] at h3
    simp only [Option.map_some, Option.getD_some, Array.all_eq_true'] at h3
    unfold preds at hd
    simp only [List.mem_map, List.mem_filter] at hd
    obtain ⟨e, ⟨he1, he2⟩, rfl⟩ := hd
    have := h3 e (by simpa using he1)
    simpa [he2] using this

theorem ready_all (hA : ancOk A ops = true) (hs : listed.size = ops.size) (h : Region.ready .any ops listed = []) : ∀ j, j < ops.size → listed.getD j false = true := by
  intro j
  induction j using Nat.strongRecOn with
  | _ j ih =>
    intro hj
    by_cases hl : listed.getD j false = true
    · exact hl
    · exfalso
      have hmem : j ∈ Region.ready .any ops listed := by
        unfold Region.ready
        simp only [List.mem_filter, List.mem_range, Bool.and_eq_true, Bool.not_eq_true']
        refine ⟨hj, ?_, ?_⟩
        · have : j < listed.size := by omega
          simp [Array.getD, this] at hl ⊢
          exact hl
        · rw [Array.getElem?_eq_getElem hj]
          simp only [Option.map_some, Option.getD_some, Array.all_eq_true']
          intro e he
          cases hb : Region.binds .any e with
          | false => simp
          | true =>
            have hd : e.on ∈ preds ops[j] := by
              unfold preds
              simp only [List.mem_map, List.mem_filter]
              exact ⟨e, ⟨by simpa using he, hb⟩, rfl⟩
            have hlt := preds_lt hA (Array.getElem?_eq_getElem hj) hd
            simpa using ih e.on hlt (by omega)
      rw [h] at hmem
      simp at hmem

theorem getD_set (listed : Array Bool) {i : Nat} (hi : i < listed.size) (j : Nat) : (listed.setIfInBounds i true).getD j false = (decide (i = j) || listed.getD j false) := by
  by_cases e : i = j
  · subst e
    simp [Array.getD, hi]
  · simp only [e, decide_false, Bool.false_or]
    simp [Array.getD_eq_getD_getElem?, Array.getElem?_setIfInBounds_ne e]

end
end Go.Ev
