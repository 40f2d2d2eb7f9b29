/- Regions whose operations the model carries out in an order that it draws, operations that make new blocks among them: the induction.
   Conditions: the region's edges are as 'fitA' asks. -/
import Derived.Test.YtlliieplgdlldaaEvU
namespace Go.Ev

section
variable {P : Program} {E : Env}

theorem drawA_ok {n : Nat} (hI : ∀ m, m ≤ n → InsOk P E m) : DrawAOk P E n := by
  intro is head al T H T1 bs T2 H' h1 h2 N ops hf e t k cs w mu tmps hN hR hT
  unfold fitA at hf
  simp only [Bool.and_eq_true, decide_eq_true_eq] at hf
  obtain ⟨⟨⟨⟨hmix, hfit⟩, hhead⟩, hA⟩, hall⟩ := hf
  generalize hAe : ancs ops.toList [] = A at hA hall
  obtain ⟨hlen, hget⟩ := fitInss_get hfit
  simp only [Array.length_toList] at hlen
  have hget' : ∀ (i : Nat) (x : Ins), is[i]? = some x → ∃ o, ops[i]? = some o ∧ fitIns P N ops x o = true := by
    intro i x hx
    obtain ⟨o, a, b⟩ := hget i x hx
    exact ⟨o, by simpa using a, b⟩
  have hall2 : ∀ i j, i < is.length → j < is.length → pairOk A is i j = true ∧ alOk A is head al i j = true := by
    intro i j hi hj
    rw [List.all_eq_true] at hall
    have h3 := hall i (by simpa using hi)
    rw [List.all_eq_true] at h3
    have h4 := h3 j (by simpa using hj)
    simpa only [Bool.and_eq_true] using h4
  have hpair := pair_spec (A := A) (is := is) (fun i j hi hj => (hall2 i j hi hj).1)
  have htail : ∀ i j, i < is.length → j < is.length → head ≤ j → i < j → (A.getD j []).contains i = true := by
    intro i j hi hj hh hij
    have h5 := (hall2 i j hi hj).2
    unfold alOk at h5
    have e1 : decide (j < head) = false := by simp; omega
    have e2 : decide (j ≤ i) = false := by simp; omega
    simp only [e1, e2, Bool.false_or, Bool.and_eq_true] at h5
    exact h5.1
  have halg : ∀ i x, i ∈ al → is[i]? = some x → x.guard = none := by
    intro i x hi hx
    have hil := (List.getElem?_eq_some_iff.1 hx).1
    have h5 := (hall2 i i hil hil).2
    unfold alOk at h5
    have hc : al.contains i = true := by simpa using hi
    rw [hx, hc] at h5
    simp only [Bool.not_true, Bool.false_or, Bool.and_eq_true] at h5
    simpa using h5.2.1
  have halr : ∀ i j x y, i ∈ al → is[i]? = some x → is[j]? = some y → i ≠ j → j < head → ∀ t, x.dst = some t → t ∈ y.reads → isCp is head al y = true ∧ i < j := by
    intro i j x y hi hx hy hij hj t ht htr
    have hil := (List.getElem?_eq_some_iff.1 hx).1
    have hjl := (List.getElem?_eq_some_iff.1 hy).1
    have h5 := (hall2 i j hil hjl).2
    unfold alOk at h5
    have hc : al.contains i = true := by simpa using hi
    have e1 : decide (i = j) = false := by simpa using hij
    have e2 : decide (head ≤ j) = false := by simp; omega
    have htr' : y.reads.contains t = true := by simpa using htr
    simp only [hx, hc, hy, ht, htr', e1, e2, Bool.not_true, Bool.false_or, Bool.and_eq_true, decide_eq_true_eq] at h5
    exact h5.2.1.2
  have hcpr : ∀ i j x y, i ∉ al → i < head → j < head → i ≠ j → is[i]? = some x → is[j]? = some y → isCp is head al x = true → ∀ t, x.dst = some t → t ∉ y.reads := by
    intro i j x y hi hih hjh hij hx hy hcp t ht
    have hil := (List.getElem?_eq_some_iff.1 hx).1
    have hjl := (List.getElem?_eq_some_iff.1 hy).1
    have h5 := (hall2 i j hil hjl).2
    unfold alOk at h5
    have hc : al.contains i = false := by simpa using hi
    have e1 : decide (i = j) = false := by simpa using hij
    have e2 : decide (head ≤ j) = false := by simp; omega
    have e3 : decide (head ≤ i) = false := by simp; omega
    simp only [hx, hc, hy, ht, hcp, e1, e2, e3, Bool.not_true, Bool.false_or, Bool.and_eq_true] at h5
    simpa using h5.2.2
  have hcpsp : ∀ x, isCp is head al x = true → ∃ s k y, x.op = .mov (.t s) ∧ x.guard = none ∧ k ∈ al ∧ k < head ∧ is[k]? = some y ∧ y.dst = some s := by
    intro x hcp
    unfold isCp at hcp
    split at hcp
    · rename_i s h6 h7
      rw [List.any_eq_true] at hcp
      obtain ⟨k, hk, h8⟩ := hcp
      simp only [Bool.and_eq_true, decide_eq_true_eq] at h8
      obtain ⟨h8, h9⟩ := h8
      split at h9
      · rename_i y hy
        exact ⟨s, k, y, h6, h7, hk, h8, hy, by simpa using h9⟩
      · simp at h9
    · simp at hcp
  have hcpof : ∀ x s k y, x.op = .mov (.t s) → x.guard = none → k ∈ al → k < head → is[k]? = some y → y.dst = some s → isCp is head al x = true := by
    intro x s k y h6 h7 hk hkh hy hd
    unfold isCp
    rw [h6, h7]
    simp only [List.any_eq_true, Bool.and_eq_true, decide_eq_true_eq]
    exact ⟨k, hk, hkh, by rw [hy]; simpa using hd⟩
  -- the traces
  obtain ⟨TA, ra, Q, F, B, a1, a2, _, _, a5, a6, a7, a8⟩ := tr_headsA h1
  obtain ⟨TB, HB, rb, b1, b2, b3, b4, b5⟩ := tr_regs (head := head) (imp := []) h2 (Nat.le_refl head)
  have hta : (is.take head).length = head := by simp; omega
  rw [hta] at a2 a6 a7 a8
  simp only [Nat.zero_add, List.length_nil, Nat.zero_le, true_implies, true_and, forall_const] at a5 a6 a7 a8
  have a5' : ∀ i x, is[i]? = some x → i < head → StepA H.blks.length al bs i x (TA i) (TA (i + 1)) (ra i) (Q i) (F i) (B i) := fun i x hx hi => a5 i x (by rw [List.getElem?_take, if_pos hi]; exact hx)
  let Tn : Nat → Tm := fun i => if i < head then TA i else TB (i - head)
  let Hn : Nat → Heap := fun i => if i < head then ⟨H.blks ++ bs, H.wr⟩ else HB (i - head)
  let r : Nat → V := fun i => if i < head then ra i else rb (i - head)
  have eTA : ∀ i, i ≤ head → Tn i = TA i := by
    intro i hi
    by_cases hlt : i < head
    · exact if_pos hlt
    · have : i = head := by omega
      subst this
      show (if i < i then _ else _) = _
      rw [if_neg (by omega), Nat.sub_self, b1, a2]
  have t0 : Tn 0 = T := by rw [eTA 0 (by omega), a1]
  have tput : ∀ i x, is[i]? = some x → Tn (i + 1) = put (Tn i) x.dst (r i) := by
    intro i x hx
    by_cases hi : i < head
    · rw [eTA (i + 1) (by omega), eTA i (by omega)]
      have := (a5' i x hx hi).1
      show _ = put _ _ (if i < head then ra i else rb (i - head))
      rw [if_pos hi]
      exact this
    · have h3 := (b5 (i - head) x (by rw [List.getElem?_drop]; rw [show head + (i - head) = i by omega]; exact hx)).1
      show (if i + 1 < head then _ else _) = put (if i < head then _ else _) _ (if i < head then _ else _)
      rw [if_neg (by omega), if_neg hi, if_neg hi, show i + 1 - head = i - head + 1 by omega]
      exact h3
  have hTn := tn_of t0 tput
  have t1 : ∀ i, i ≤ head → Hn i = ⟨H.blks ++ bs, H.wr⟩ := by
    intro i hi
    show (if i < head then _ else _) = _
    split
    · rfl
    · rw [show i - head = 0 by omega, b2]
  have t2 : Tn is.length = T2 := by
    show (if is.length < head then _ else _) = _
    rw [if_neg (by omega)]
    simpa using b3
  have t3 : Hn is.length = H' := by
    show (if is.length < head then _ else _) = _
    rw [if_neg (by omega)]
    simpa using b4
  have t4 : ∀ i x, is[i]? = some x → ¬ (i < head) → StepF E n head [] i x (Tn i) (Tn (i + 1)) (Hn i) (Hn (i + 1)) (r i) := by
    intro i x hx hi
    have h3 := b5 (i - head) x (by rw [List.getElem?_drop]; rw [show head + (i - head) = i by omega]; exact hx)
    rw [show head + (i - head) = i by omega] at h3
    show StepF E n head [] i x (if i < head then _ else _) (if i + 1 < head then _ else _) (if i < head then _ else _) (if i + 1 < head then _ else _) (if i < head then _ else _)
    rw [if_neg hi, if_neg hi, if_neg hi, if_neg (by omega), if_neg (by omega), show i + 1 - head = i - head + 1 by omega]
    exact h3
  have hbase := hR.len
  have hclT : ∀ t v, T.get t = some v → v.closed H.blks.length = true := by
    intro t v hv
    obtain ⟨u, _, hu⟩ := hT.get t v hv
    have := Rep.closed _ _ hu
    simp only [ctx, hbase] at this
    exact this
  have er : ∀ i, i < head → r i = ra i := fun i hi => if_pos hi
  -- a copy of a new block's address
  have hrr : ∀ i x s k y, is[i]? = some x → i < head → i ∉ al → x.op = .mov (.t s) → x.guard = none → k ∈ al → k < head → is[k]? = some y → y.dst = some s → r i = r k ∧ k < i := by
    intro i x s k y hx hih hial hop hgd hk hkh hy hd
    have hin := (List.getElem?_eq_some_iff.1 hx).1
    have hsr : s ∈ x.reads := by simp [Ins.reads, O.reads, opdT, hop]
    have hki : k ≠ i := fun e0 => hial (e0 ▸ hk)
    have hklt := (halr k i y x hk hy hx hki hih s hd hsr).2
    rcases (a5' i x hx hih).2 with ⟨c1, _⟩ | ⟨_, c2, _⟩
    · exact absurd c1 hial
    · rw [← eTA i (by omega), hgd, hop] at c2
      simp only [wanted, Option.some.injEq, Bool.true_eq_false, false_and, true_and, false_or, evP, Opd.ev] at c2
      rcases hTn i (by omega) s with ⟨j, z, q1, q2, q3, q4⟩ | ⟨q1, _⟩
      · have hjk : j = k := by
          by_cases e0 : j = k
          · exact e0
          · exact absurd hd ((hpair j k z y q2 hy e0).1 s q3)
        subst hjk
        rw [q4] at c2
        refine ⟨?_, hklt⟩
        rw [er i hih]
        exact (Option.some.inj c2).symm
      · exact absurd hd (q1 k y hklt hy)
  have hclr : ∀ m i, i < m → ∀ x, is[i]? = some x → i < head → i ∉ al → isCp is head al x = false → (r i).closed H.blks.length = true := by
    intro m
    induction m with
    | zero => intro i hi; omega
    | succ m ihm =>
      intro i hi x hx hih hial hcp
      have hin := (List.getElem?_eq_some_iff.1 hx).1
      rcases (a5' i x hx hih).2 with ⟨c1, _⟩ | ⟨_, c2, c3⟩
      · exact absurd c1 hial
      · rw [er i hih]
        cases hcl : (ra i).closed H.blks.length with
        | true => rfl
        | false =>
          exfalso
          rw [hcl, Bool.false_or] at c3
          unfold plainMov at c3
          split at c3
          · rename_i s hop hgd
            have hsr : s ∈ x.reads := by simp [Ins.reads, O.reads, opdT, hop]
            rw [← eTA i (by omega), hgd, hop] at c2
            simp only [wanted, Option.some.injEq, Bool.true_eq_false, false_and, true_and, false_or, evP, Opd.ev] at c2
            rcases hTn i (by omega) s with ⟨j, z, q1, q2, q3, q4⟩ | ⟨_, q2⟩
            · rw [q4] at c2
              have e0 := Option.some.inj c2
              by_cases hjal : j ∈ al
              · rw [hcpof x s j z hop hgd hjal (by omega) q2 q3] at hcp
                simp at hcp
              · cases hcj : isCp is head al z with
                | true => exact hcpr j i z x hjal (by omega) hih (by omega) q2 hx hcj s q3 hsr
                | false =>
                  have := ihm j (by omega) z q2 (by omega) hjal hcj
                  rw [e0, hcl] at this
                  simp at this
            · rw [q2] at c2
              have := hclT s _ c2
              rw [hcl] at this
              simp at this
          · simp at c3
  -- the first operations, in whatever order; then the others
  have main : ∀ (fuel t : Nat) (listed : Array Bool) (ex : List Nat) (tmps : Array Value) (w1 : World) (mu1 : List Nat), InvA P N ops is head al T H mu w r F B listed ex tmps w1 mu1 → (∀ l : List Nat, (∀ j, j ∈ l → j < ops.size ∧ listed.getD j false = false) → l.Nodup → l.length ≤ fuel) →
      ∃ mu' tmps' w', Steps P (lone (mkF e tmps (.inRegion ops (Region.linearise.go .any ops fuel t listed []) :: k)) cs w1) (lone (mkF e tmps' (.inRegion ops [] :: k)) cs w') ∧
        Ext (ctx mu H.blks w) (ctx mu' H'.blks w') ∧ R mu' H'.blks w' ∧ RelT (ctx mu' H'.blks w') T2 tmps' ∧ tmps'.size = N ∧ Keeps H H' := by
    have turn : ∀ (fuel t : Nat) (listed : Array Bool) (ex : List Nat) (tmps : Array Value) (w1 : World) (mu1 : List Nat), InvA P N ops is head al T H mu w r F B listed ex tmps w1 mu1 → (∀ l : List Nat, (∀ j, j ∈ l → j < ops.size ∧ listed.getD j false = false) → l.Nodup → l.length ≤ fuel) →
        (∀ i, i < head → listed.getD i false = true) →
        ∃ mu' tmps' w', Steps P (lone (mkF e tmps (.inRegion ops (Region.linearise.go .any ops fuel t listed []) :: k)) cs w1) (lone (mkF e tmps' (.inRegion ops [] :: k)) cs w') ∧
          Ext (ctx mu H.blks w) (ctx mu' H'.blks w') ∧ R mu' H'.blks w' ∧ RelT (ctx mu' H'.blks w') T2 tmps' ∧ tmps'.size = N ∧ Keeps H H' := by
      intro fuel t listed ex tmps w1 mu1 hi hc hl
      have hexh : ∀ i, i ∈ ex → i < head ∧ i ∈ al := by
        intro i hx
        obtain ⟨q1, q2⟩ := (hi.exal i).1 hx
        refine ⟨?_, q1⟩
        by_cases hlt : i < head
        · exact hlt
        · rw [hi.notail i (by omega)] at q2
          simp at q2
      have hBs : ∀ i, i ∈ ex → bs[Q i]? = some (B i) ∧ (B i).closed H.blks.length = true ∧ r i = F i (H.blks.length + Q i) := by
        intro i hx
        obtain ⟨q1, q2⟩ := hexh i hx
        have hx' := List.getElem?_eq_getElem (show i < is.length by omega)
        rcases (a5' i _ hx' q1).2 with ⟨_, _, c1, c2, c3⟩ | ⟨c1, _⟩
        · exact ⟨c3, c1, by rw [er i q1]; exact c2⟩
        · exact absurd q2 c1
      obtain ⟨mu2, p1, p2, p3, p4⟩ := perm_ok (bl := bs) (Q := Q) hR hi.ext hi.R (fun i hx => (hBs i hx).1) (fun i hx => (hBs i hx).2.1)
        (fun i i' hx hx' hq => a7 i i' (hexh i hx).1 (hexh i' hx').1 (hexh i hx).2 (hexh i' hx').2 hq)
        (fun q hq => by
          obtain ⟨i, c1, c2, c3⟩ := a8 q hq
          exact ⟨i, (hi.exal i).2 ⟨c2, hl i c1⟩, c3⟩) hi.nodup
      have hinv : Inv P N ops is head T Hn r (fun i => i < head) listed head tmps w1 mu2 := by
        refine ⟨hl, hi.size, hi.down, Nat.le_refl _, hhead, fun j hj1 hj2 => ?_, by rw [t1 head (Nat.le_refl _)]; exact p1, fun i x tt hx hli hd => ?_, fun tt v hno hv => ?_, hi.sizeT⟩
        · rw [hi.notail j hj1]
          constructor
          · intro hh; simp at hh
          · intro hh; omega
        · rw [t1 head (Nat.le_refl _)]
          have hih : i < head := by
            by_cases hlt : i < head
            · exact hlt
            · rw [hi.notail i (by omega)] at hli
              simp at hli
          by_cases hal : i ∈ al
          · have hmem := (hi.exal i).2 ⟨hal, hli⟩
            obtain ⟨p, hp⟩ := List.mem_iff_getElem?.1 hmem
            obtain ⟨u, kk, obj, c1, c2, c3, c4⟩ := hi.als p i hp
            refine ⟨u, c1 x tt hx hd, ?_⟩
            rw [(hBs i hmem).2.2]
            refine c4 _ _ ?_ c3
            simp only [ctx]
            rw [p3 p i hp]
            exact c2
          · cases hcp : isCp is head al x with
            | false =>
              obtain ⟨u, c1, c2⟩ := hi.vals i x tt hx hli hal hcp hd
              exact ⟨u, c1, p4 _ _ c2 (hclr (i + 1) i (by omega) x hx hih hal hcp)⟩
            | true =>
              obtain ⟨s, j, y, d1, d2, d3, d4, d5, d6⟩ := hcpsp x hcp
              obtain ⟨e1, e2⟩ := hi.cps i x j y s tt hx hli hal hih d1 d3 d5 d6 hd hcp
              have hmem := (hi.exal j).2 ⟨d3, e1⟩
              obtain ⟨p, hp⟩ := List.mem_iff_getElem?.1 hmem
              obtain ⟨u, kk, obj, c1, c2, c3, c4⟩ := hi.als p j hp
              refine ⟨u, by rw [e2]; exact c1 y s d5 d6, ?_⟩
              rw [(hrr i x s j y hx hih hal d1 d2 d3 d4 d5 d6).1, (hBs j hmem).2.2]
              refine c4 _ _ ?_ c3
              simp only [ctx]
              rw [p3 p j hp]
              exact c2
        · rw [t1 head (Nat.le_refl _)]
          obtain ⟨u, c1, c2⟩ := hi.olds tt v hno hv
          exact ⟨u, c1, p4 _ _ c2 (hclT tt v hv)⟩
      have := run_ok (L0 := fun i => i < head) hI hA hlen hget' hpair (imp := []) (fun i j hi hj hh hij _ => htail i j hi hj hh hij) t1 t2 t3 t4 hTn e k cs fuel t listed head tmps w1 mu2 hinv hc
      rw [t1 head (Nat.le_refl _)] at this
      obtain ⟨mu', tmps', w', s1, s2, s3, s4, s5, s6⟩ := this
      exact ⟨mu', tmps', w', s1, p2.trans s2, s3, s4, s5, Keeps.trans (⟨by simp, fun _ h => h, fun i hi _ => by simp only; exact List.getElem?_append_left hi⟩ : Keeps H ⟨H.blks ++ bs, H.wr⟩) s6⟩
    intro fuel
    induction fuel with
    | zero =>
      intro t listed ex tmps w1 mu1 hi hc
      refine turn 0 t listed ex tmps w1 mu1 hi hc (fun i hih => ?_)
      cases hl : listed.getD i false with
      | true => rfl
      | false =>
        have := hc [i] (by intro q hq; rw [List.mem_singleton] at hq; subst hq; exact ⟨by omega, hl⟩) (by simp)
        simp at this
    | succ fuel ih =>
      intro t listed ex tmps w1 mu1 hi hc
      by_cases hdone : ∀ i, i < head → listed.getD i false = true
      · exact turn (fuel + 1) t listed ex tmps w1 mu1 hi hc hdone
      · simp only [Region.linearise.go]
        change ∃ mu' tmps' w', Steps P (lone (mkF e tmps (.inRegion ops (match (Region.ready .any ops listed)[t % (Region.ready .any ops listed).length]? with
          | some i => Region.linearise.go .any ops fuel (t / (Region.ready .any ops listed).length) (listed.setIfInBounds i true) [i]
          | none => [].reverse) :: k)) cs w1) _ ∧ _
        cases hi' : (Region.ready .any ops listed)[t % (Region.ready .any ops listed).length]? with
        | none =>
          exfalso
          have hnil : Region.ready .any ops listed = [] := by
            cases hr : Region.ready .any ops listed with
            | nil => rfl
            | cons x xs =>
              rw [hr] at hi'
              have hlt : t % (x :: xs).length < (x :: xs).length := Nat.mod_lt _ (by simp)
              simp at hi'
              simp at hlt
              omega
          exact hdone (fun i hih => ready_all hA hi.size hnil i (by omega))
        | some i =>
          simp only []
          rw [linearise_go_acc, List.reverse_singleton, List.singleton_append]
          have hmem : i ∈ Region.ready .any ops listed := List.mem_of_getElem? hi'
          obtain ⟨o, ho, his, hli, hpr⟩ := ready_spec hmem hi.size
          have hin : i < is.length := by omega
          have hx := List.getElem?_eq_getElem hin
          generalize hxe : is[i] = x at hx
          obtain ⟨o', ho', hfi⟩ := hget' i x hx
          rw [ho] at ho'
          cases ho'
          have hfi' := hfi
          simp only [fitIns, Bool.and_eq_true, beq_iff_eq] at hfi'
          obtain ⟨⟨⟨hd1, hd2⟩, hg⟩, hfo⟩ := hfi'
          have hanc := anc_listed hA hi.down
          have hlist : ∀ j, (A.getD i []).contains j = true → listed.getD j false = true := fun j hj => hanc i o ho hpr j hj
          have hih : i < head := by
            by_cases hlt : i < head
            · exact hlt
            · exfalso
              exact hdone (fun j hj => hlist j (htail j i (by omega) hin (by omega) (by omega)))
          have hnoanc : ∀ j, j < ops.size → listed.getD j false = true → (A.getD j []).contains i = false := by
            intro j hj hl
            cases hcc : (A.getD j []).contains i with
            | false => rfl
            | true =>
              have := hanc j _ (Array.getElem?_eq_getElem hj) (fun d hd => hi.down j _ hl (Array.getElem?_eq_getElem hj) d hd) i hcc
              rw [hli] at this
              simp at this
          have hTx : isCp is head al x = false → RelT (ctx mu1 (H.blks ++ ex.map B) w1) ((Tn i).keep x.reads) tmps := by
            intro hcpx
            refine ⟨fun tt v hv => ?_⟩
            have hin' := get_keep_in hv
            have hv' := get_keep hv
            rcases hTn i (by omega) tt with ⟨j, y, q1, q2, q3, q4⟩ | ⟨q1, q2⟩
            · have hp := (hpair i j x y hx q2 (by omega)).2 tt q3 hin'
              rw [if_pos q1] at hp
              rw [q4] at hv'
              cases hv'
              have hnal : j ∉ al := fun hal => by
                have := (halr j i y x hal q2 hx (by omega) hih tt q3 hin').1
                rw [hcpx] at this
                simp at this
              have hncp : isCp is head al y = false := by
                cases hcy : isCp is head al y with
                | false => rfl
                | true => exact absurd hin' (hcpr j i y x hnal (by omega) hih (by omega) q2 hx hcy tt q3)
              exact hi.vals j y tt q2 (hlist j hp) hnal hncp q3
            · rw [q2] at hv'
              refine hi.olds tt v (fun j y hy hl hd => ?_) hv'
              by_cases hji : j = i
              · subst hji
                rw [hli] at hl
                simp at hl
              · by_cases hlt : j < i
                · exact q1 j y hlt hy hd
                · have hp := (hpair i j x y hx hy (Ne.symm hji)).2 tt hd hin'
                  rw [if_neg hlt] at hp
                  have hjs := (List.getElem?_eq_some_iff.1 hy).1
                  rw [hnoanc j (by omega) hl] at hp
                  simp at hp
          have hcongr : ∀ tt, tt ∈ x.reads → ((Tn i).keep x.reads).get tt = (Tn i).get tt := fun tt ht => get_keep_mem ht
          have hdstlt : ∀ d, x.dst = some d → d < tmps.size := by
            intro d hd
            rw [hd] at hd2
            rw [hi.sizeT]
            simpa using hd2
          have hsz : i < listed.size := by rw [hi.size]; exact his
          have hgs := fun j => getD_set listed hsz j
          have hcount : ∀ l : List Nat, (∀ j, j ∈ l → j < ops.size ∧ (listed.setIfInBounds i true).getD j false = false) → l.Nodup → l.length ≤ fuel := by
            intro l hl hnd
            have := hc (i :: l) (by
              intro j hj
              rcases List.mem_cons.1 hj with rfl | hj
              · exact ⟨his, hli⟩
              · obtain ⟨a, b⟩ := hl j hj
                rw [hgs] at b
                simp only [Bool.or_eq_false_iff] at b
                exact ⟨a, b.2⟩) (by
              rw [List.nodup_cons]
              refine ⟨fun hmem => ?_, hnd⟩
              have := (hl i hmem).2
              rw [hgs] at this
              simp at this)
            simp at this
            omega
          -- how it goes on
          have next : ∀ (ex' : List Nat) (w' : World) (mu' : List Nat) (u : Value), Ext (ctx mu1 (H.blks ++ ex.map B) w1) (ctx mu' (H.blks ++ ex'.map B) w') → R mu' (H.blks ++ ex'.map B) w' → (∀ kk obj, w1.heap[kk]? = some obj → (∃ p, mu1[H.blks.length + p]? = some kk ∧ p < ex.length) → w'.heap[kk]? = some obj) →
              ((i ∉ al ∧ ex' = ex ∧ ((isCp is head al x = false ∧ Rep (ctx mu' (H.blks ++ ex'.map B) w') (r i) u) ∨ (isCp is head al x = true ∧ ∀ k y s, x.op = .mov (.t s) → k ∈ al → is[k]? = some y → y.dst = some s → listed.getD k false = true ∧ tmps[s]? = some u))) ∨
                (i ∈ al ∧ ex' = ex ++ [i] ∧ ∃ kk obj, mu'[H.blks.length + ex.length]? = some kk ∧ w'.heap[kk]? = some obj ∧ ∀ (C' : Ctx) (q : Nat), C'.mu[q]? = some kk → C'.w.heap[kk]? = some obj → Rep C' (F i q) u)) →
              InvA P N ops is head al T H mu w r F B (listed.setIfInBounds i true) ex' (putA tmps x.dst u) w' mu' := by
            intro ex' w' mu' u hE hR' hheap hcase
            have hiex : i ∉ ex := fun hx => by
              have := ((hi.exal i).1 hx).2
              rw [hli] at this
              simp at this
            have hkeepd : ∀ tt (v : Value), tmps[tt]? = some v → x.dst ≠ some tt → (putA tmps x.dst u)[tt]? = some v := by
              intro tt v hv hne
              cases hxd : x.dst with
              | none => exact hv
              | some d =>
                have : d ≠ tt := fun e0 => hne (by rw [hxd, e0])
                simp only [putA]
                rw [Array.getElem?_setIfInBounds_ne this]
                exact hv
            have hputd : ∀ tt, x.dst = some tt → (putA tmps x.dst u)[tt]? = some u := by
              intro tt hd
              rw [hd]
              have := hdstlt tt hd
              simp [putA, Array.getElem?_setIfInBounds, this]
            refine ⟨by simp [hi.size], fun j oj hj hoj d hd => ?_, fun j hj => ?_, fun j => ?_, ?_, hR', hi.ext.trans hE, fun j y k z s tt hy hl hal hjh hop hk hz hzd hd hcp => ?_, fun j y tt hy hl hal hcp hd => ?_, fun p j hp => ?_, fun tt v hno hv => ?_, by rw [putA_size]; exact hi.sizeT⟩
            · rw [hgs] at hj ⊢
              simp only [Bool.or_eq_true, decide_eq_true_eq] at hj ⊢
              rcases hj with rfl | hj
              · rw [ho] at hoj
                cases hoj
                exact .inr (hpr d hd)
              · exact .inr (hi.down j oj hj hoj d hd)
            · rw [hgs, hi.notail j hj]
              simp
              omega
            · rw [hgs]
              simp only [Bool.or_eq_true, decide_eq_true_eq]
              rcases hcase with ⟨c1, rfl, _⟩ | ⟨c1, rfl, _⟩
              · rw [hi.exal]
                constructor
                · rintro ⟨d1, d2⟩; exact ⟨d1, .inr d2⟩
                · rintro ⟨d1, rfl | d2⟩
                  · exact absurd d1 c1
                  · exact ⟨d1, d2⟩
              · simp only [List.mem_append, List.mem_singleton]
                rw [hi.exal]
                constructor
                · rintro (⟨d1, d2⟩ | rfl)
                  · exact ⟨d1, .inr d2⟩
                  · exact ⟨c1, .inl rfl⟩
                · rintro ⟨d1, rfl | d2⟩
                  · exact .inr rfl
                  · exact .inl ⟨d1, d2⟩
            · rcases hcase with ⟨c1, rfl, _⟩ | ⟨c1, rfl, _⟩
              · exact hi.nodup
              · rw [List.nodup_append]
                refine ⟨hi.nodup, by simp, fun a ha b hb => ?_⟩
                rw [List.mem_singleton] at hb
                subst hb
                exact fun e0 => hiex (e0 ▸ ha)
            · rw [hgs] at hl
              simp only [Bool.or_eq_true, decide_eq_true_eq] at hl
              have hkeep' : ∀ tt, x.dst ≠ some tt → (putA tmps x.dst u)[tt]? = tmps[tt]? := by
                intro tt hne
                cases hxd : x.dst with
                | none => rfl
                | some d =>
                  have : d ≠ tt := fun e0 => hne (by rw [hxd, e0])
                  simp only [putA]
                  rw [Array.getElem?_setIfInBounds_ne this]
              by_cases hji : i = j
              · subst hji
                rw [hx] at hy
                cases hy
                rcases hcase with ⟨c1, rfl, c2⟩ | ⟨c1, _⟩
                · rcases c2 with ⟨c2, _⟩ | ⟨_, c2⟩
                  · rw [hcp] at c2
                    simp at c2
                  · obtain ⟨c3, c4⟩ := c2 k z s hop hk hz hzd
                    have hki : k ≠ i := fun e0 => hal (e0 ▸ hk)
                    refine ⟨by rw [hgs, c3]; simp, ?_⟩
                    rw [hputd tt hd, hkeep' s (fun e0 => (hpair i k x z hx hz (Ne.symm hki)).1 s e0 hzd), c4]
                · exact absurd c1 hal
              · have hl' := hl.resolve_left hji
                obtain ⟨c3, c4⟩ := hi.cps j y k z s tt hy hl' hal hjh hop hk hz hzd hd hcp
                have hki : i ≠ k := fun e0 => by
                  rw [← e0, hli] at c3
                  simp at c3
                refine ⟨by rw [hgs, c3]; simp, ?_⟩
                rw [hkeep' tt (fun e0 => (hpair i j x y hx hy hji).1 tt e0 hd), hkeep' s (fun e0 => (hpair i k x z hx hz hki).1 s e0 hzd), c4]
            · rw [hgs] at hl
              simp only [Bool.or_eq_true, decide_eq_true_eq] at hl
              by_cases hji : i = j
              · subst hji
                rw [hx] at hy
                cases hy
                rcases hcase with ⟨c1, rfl, c2⟩ | ⟨c1, _⟩
                · rcases c2 with ⟨_, c2⟩ | ⟨c2, _⟩
                  · exact ⟨u, hputd tt hd, c2⟩
                  · rw [hcp] at c2
                    simp at c2
                · exact absurd c1 hal
              · have hl' := hl.resolve_left hji
                obtain ⟨u0, d1, d2⟩ := hi.vals j y tt hy hl' hal hcp hd
                exact ⟨u0, hkeepd tt u0 d1 (fun e0 => (hpair i j x y hx hy hji).1 tt e0 hd), Rep.mono hE _ _ d2⟩
            · have hold : p < ex.length → ex[p]? = some j → ∃ u0 kk obj, (∀ y tt, is[j]? = some y → y.dst = some tt → (putA tmps x.dst u)[tt]? = some u0) ∧ mu'[H.blks.length + p]? = some kk ∧ w'.heap[kk]? = some obj ∧
                  ∀ (C' : Ctx) (q : Nat), C'.mu[q]? = some kk → C'.w.heap[kk]? = some obj → Rep C' (F j q) u0 := by
                intro hpl hp
                obtain ⟨u0, kk, obj, d1, d2, d3, d4⟩ := hi.als p j hp
                have hjne : j ≠ i := fun e0 => hiex (e0 ▸ List.mem_of_getElem? hp)
                refine ⟨u0, kk, obj, fun y tt hy hd => hkeepd tt u0 (d1 y tt hy hd) (fun e0 => (hpair i j x y hx hy (Ne.symm hjne)).1 tt e0 hd), hE.mu _ _ d2, hheap kk obj d3 ⟨p, d2, hpl⟩, d4⟩
              rcases hcase with ⟨c1, rfl, _⟩ | ⟨c1, rfl, kk, obj, c2, c3, c4⟩
              · exact hold (List.getElem?_eq_some_iff.1 hp).1 hp
              · rw [List.getElem?_append] at hp
                split at hp
                · rename_i hpl
                  exact hold hpl hp
                · rename_i hpl
                  have hp0 : p - ex.length = 0 := by
                    rcases Nat.eq_zero_or_pos (p - ex.length) with h0 | h0
                    · exact h0
                    · rw [List.getElem?_eq_none (by simp; omega)] at hp
                      simp at hp
                  rw [hp0] at hp
                  simp at hp
                  subst hp
                  have hpe : p = ex.length := by omega
                  subst hpe
                  refine ⟨u, kk, obj, fun y tt hy hd => ?_, c2, c3, c4⟩
                  rw [hx] at hy
                  cases hy
                  exact hputd tt hd
            · have hxd : x.dst ≠ some tt := hno i x hx (by rw [hgs]; simp)
              obtain ⟨u0, d1, d2⟩ := hi.olds tt v (fun j y hy hl => hno j y hy (by rw [hgs, hl]; simp)) hv
              exact ⟨u0, hkeepd tt u0 d1 hxd, Rep.mono hE _ _ d2⟩
          have finish : ∀ (ex' : List Nat) (w' : World) (mu' : List Nat) (u : Value), Steps P (lone (mkF e tmps (.inRegion ops (i :: Region.linearise.go .any ops fuel (t / (Region.ready .any ops listed).length) (listed.setIfInBounds i true) []) :: k)) cs w1)
                (lone (mkF e (putA tmps x.dst u) (.inRegion ops (Region.linearise.go .any ops fuel (t / (Region.ready .any ops listed).length) (listed.setIfInBounds i true) []) :: k)) cs w') →
              InvA P N ops is head al T H mu w r F B (listed.setIfInBounds i true) ex' (putA tmps x.dst u) w' mu' →
              ∃ mu' tmps' w', Steps P (lone (mkF e tmps (.inRegion ops (i :: Region.linearise.go .any ops fuel (t / (Region.ready .any ops listed).length) (listed.setIfInBounds i true) []) :: k)) cs w1) (lone (mkF e tmps' (.inRegion ops [] :: k)) cs w') ∧
                Ext (ctx mu H.blks w) (ctx mu' H'.blks w') ∧ R mu' H'.blks w' ∧ RelT (ctx mu' H'.blks w') T2 tmps' ∧ tmps'.size = N ∧ Keeps H H' := by
            intro ex' w' mu' u hs hinv
            obtain ⟨mu2, tmps2, w2, c1, c2⟩ := ih _ _ ex' _ w' mu' hinv hcount
            exact ⟨mu2, tmps2, w2, hs.trans c1, c2⟩
          have hwantc : wanted ((Tn i).keep x.reads) x.guard = wanted (Tn i) x.guard := wanted_congr (fun tt b hgb => hcongr tt (by simp [Ins.reads, hgb]))
          have hdd : o.dst = x.dst := hd1.symm
          have hTAi := eTA i (by omega)
          have hnd := fitO_notDefer hfo
          rcases (a5' i x hx hih).2 with ⟨hal, hab, hcl, hri, hbq⟩ | ⟨hal, hcase, hcl⟩
          · -- a new block
            have hgd := halg i x hal hx
            have hTx := hTx (by
              cases hcpx : isCp is head al x with
              | false => rfl
              | true =>
                obtain ⟨_, _, _, d1, _⟩ := hcpsp x hcpx
                rw [d1] at hab
                simp [allocB] at hab)
            have hw' : Region.wanted o (yielded ops tmps) = true := wanted_spec hTx hg (by rw [hwantc, hgd]; rfl)
            rw [← hTAi, ← allocB_congr (T := (Tn i).keep x.reads) (fun tt ht => hcongr tt (by simp [Ins.reads, ht]))] at hab
            obtain ⟨u, obj, g1, g2, g3, g4⟩ := allocB_ok (P := P) hTx hab hfo
            have hgr := Grows.push w1 obj
            have hE := newExt hi.R hgr (Nat.le_refl _) (B i)
            have hheap : ({ w1 with heap := w1.heap.push obj } : World).heap[w1.heap.size]? = some obj := Array.getElem?_push_size
            have hR' := newR hi.R hgr (Nat.le_refl _) (g4 _ hE hheap)
            have hs := s_op (P := P) (e := e) (k := k) (cs := cs) (rest := Region.linearise.go .any ops fuel (t / (Region.ready .any ops listed).length) (listed.setIfInBounds i true) []) ho hw' hnd (.inl g1)
            rw [hdd] at hs
            have hexm : H.blks ++ ex.map B ++ [B i] = H.blks ++ (ex ++ [i]).map B := by simp
            rw [hexm] at hE hR'
            have hml := hi.R.len
            simp only [List.length_append, List.length_map] at hml
            refine finish (ex ++ [i]) _ _ u (.one hs) (next (ex ++ [i]) _ _ u hE hR' (fun kk ob hk _ => by rw [hgr.block kk (Array.getElem?_eq_some_iff.1 hk).1]; exact hk) (.inr ⟨hal, rfl, w1.heap.size, obj, ?_, hheap, g3⟩))
            rw [List.getElem?_append_right (by omega), show H.blks.length + ex.length - mu1.length = 0 by omega]
            rfl
          · cases hcpx : isCp is head al x with
            | true =>
              obtain ⟨s, j, y, d1, d2, d3, d4, d5, d6⟩ := hcpsp x hcpx
              obtain ⟨_, hjlt⟩ := hrr i x s j y hx hih hal d1 d2 d3 d4 d5 d6
              have hji : i ≠ j := by omega
              have hp := (hpair i j x y hx d5 hji).2 s d6 (by simp [Ins.reads, O.reads, opdT, d1])
              rw [if_pos hjlt] at hp
              have hlj := hlist j hp
              have hmem := (hi.exal j).2 ⟨d3, hlj⟩
              obtain ⟨p, hp⟩ := List.mem_iff_getElem?.1 hmem
              obtain ⟨u, kk, obj, c1, c2, c3, c4⟩ := hi.als p j hp
              have hus := c1 y s d5 d6
              have hw' : Region.wanted o (yielded ops tmps) = true := wanted_spec (T := []) (C := ctx mu1 H.blks w1) ⟨fun _ _ h => by simp [Tm.get] at h⟩ (b := true) hg (by rw [d2]; rfl)
              have hop : o.op = .move (.tmp s) ∨ o.op = .assign (.tmp s) := by
                rw [d1] at hfo
                cases ho' : o.op <;> simp only [ho', fitO, Bool.false_eq_true] at hfo
                · rename_i z; cases z <;> simp [fitX] at hfo; subst hfo; simp
                · rename_i z; cases z <;> simp [fitX] at hfo; subst hfo; simp
              have hy1 : Yields P (execOp (ev1 tmps) o) w1 u w1 := by
                left
                obtain ⟨dst, op, ty, pos, after, guard⟩ := o
                rcases hop with rfl | rfl <;> simp [execOp, ev1, hus]
              have hs := s_op (P := P) (e := e) (k := k) (cs := cs) (rest := Region.linearise.go .any ops fuel (t / (Region.ready .any ops listed).length) (listed.setIfInBounds i true) []) ho hw' hnd hy1
              rw [hdd] at hs
              refine finish ex w1 mu1 u (.one hs) (next ex w1 mu1 u (Ext.refl _) hi.R (fun _ _ h _ => h) (.inl ⟨hal, rfl, .inr ⟨hcpx, fun k2 z s2 e1 e2 e3 e4 => ?_⟩⟩))
              rw [d1] at e1
              cases e1
              have hkj : k2 = j := by
                by_cases e0 : k2 = j
                · exact e0
                · exact absurd d6 ((hpair k2 j z y e3 d5 e0).1 s e4)
              subst hkj
              exact ⟨hlj, hus⟩
            | false =>
            have hTx := hTx hcpx
            rw [← hTAi, ← hwantc] at hcase
            have hri := er i hih
            rcases hcase with ⟨hw, hr0⟩ | ⟨hw, hp⟩
            · have hw' := wanted_spec hTx hg hw
              have hs := s_opSkip (P := P) (e := e) (k := k) (cs := cs) (w := w1) (rest := Region.linearise.go .any ops fuel (t / (Region.ready .any ops listed).length) (listed.setIfInBounds i true) []) (ops := ops) (i := i) (t := tmps) (by simp [ho, hw'])
              rw [ho] at hs
              simp only [Option.bind_some, hdd] at hs
              refine finish ex w1 mu1 undef (.one hs) (next ex w1 mu1 undef (Ext.refl _) hi.R (fun _ _ h _ => h) (.inl ⟨hal, rfl, .inl ⟨hcpx, ?_⟩⟩))
              rw [hri, hr0]
              simp only [Rep]
              exact ⟨#[], rfl, by simp [Reps]⟩
            · have hw' := wanted_spec hTx hg hw
              rw [← evP_congr (T := (Tn i).keep x.reads) (fun tt ht => hcongr tt (by simp [Ins.reads, ht]))] at hp
              obtain ⟨u, w', g1, g2, g3⟩ := evP_ok (P := P) hi.R hTx hp hfo
              have hs := s_op (P := P) (e := e) (k := k) (cs := cs) (rest := Region.linearise.go .any ops fuel (t / (Region.ready .any ops listed).length) (listed.setIfInBounds i true) []) ho hw' hnd g1
              rw [hdd] at hs
              exact finish ex w' mu1 u (.one hs) (next ex w' mu1 u g2.ext (g2.R hi.R) (fun kk ob hk _ => by rw [g2.block kk (Array.getElem?_eq_some_iff.1 hk).1]; exact hk) (.inl ⟨hal, rfl, .inl ⟨hcpx, by rw [hri]; exact g3⟩⟩))
  have hsched : Region.schedule (P.follows .mixedOrders) ops t = Region.linearise.go .any ops ops.size t (Array.replicate ops.size false) [] := by
    simp only [Region.schedule, hmix, Bool.true_or, if_true]
    rfl
  rw [hsched]
  have hrep : ∀ j, (Array.replicate ops.size false).getD j false = false := by
    intro j
    simp [Array.getD_eq_getD_getElem?, Array.getElem?_replicate]
    split <;> rfl
  have hinv : InvA P N ops is head al T H mu w r F B (Array.replicate ops.size false) [] tmps w mu := by
    refine ⟨by simp, fun j o hj => by rw [hrep] at hj; simp at hj, fun j _ => hrep j, fun i => by rw [hrep]; simp, by simp, by simpa using hR, by simpa using Ext.refl _, fun i x k y s t hx hl => by rw [hrep] at hl; simp at hl, fun i x tt hx hl => by rw [hrep] at hl; simp at hl, fun p i hp => by simp at hp, fun tt v _ hv => by simpa using hT.get tt v hv, hN⟩
  exact main ops.size t _ [] tmps w mu hinv (fun l hl hnd => nodup_le ops.size l hnd (fun j hj => (hl j hj).1))

end
end Go.Ev
