/- Regions whose operations the model carries out in an order that it draws, where those that ask or change memory stand in one fixed order.
   Conditions: the region's edges are as 'fitC' asks. -/
import Derived.Test.YtlliieplgdlldaaEvV
namespace Go.Ev

/-- one operation of 'evC' -/
def StepC (E : Env) (n : Nat) (ch : List Nat) (i : Nat) (x : Ins) (T T' : Tm) (H H' : Heap) (r : V) : Prop :=
  T' = put T x.dst r ∧ ((wanted T x.guard = some false ∧ r = .tup [] ∧ H' = H) ∨
    (wanted T x.guard = some true ∧ ((i ∉ ch ∧ evP T x.op = some r ∧ H' = H) ∨ (i ∈ ch ∧ ∃ m oH, m ≤ n ∧ evIns E m x T H = some (r, oH) ∧ H' = oH.getD H))))

theorem StepC.mono {E : Env} {n n' : Nat} {ch : List Nat} {i : Nat} {x : Ins} {T T' : Tm} {H H' : Heap} {r : V} (hn : n ≤ n') (h : StepC E n ch i x T T' H H' r) : StepC E n' ch i x T T' H H' r := by
  obtain ⟨q1, q2⟩ := h
  refine ⟨q1, ?_⟩
  rcases q2 with q | ⟨a, b | ⟨c1, m, oH, c2, c3⟩⟩
  · exact .inl q
  · exact .inr ⟨a, .inl b⟩
  · exact .inr ⟨a, .inr ⟨c1, m, oH, by omega, c3⟩⟩

theorem tr_C {E : Env} {ch : List Nat} : ∀ {n j : Nat} {is : List Ins} {T T1 : Tm} {H H1 : Heap}, evC E n j ch is T H = some (T1, H1) →
    ∃ (Tn : Nat → Tm) (Hn : Nat → Heap) (r : Nat → V), Tn 0 = T ∧ Hn 0 = H ∧ Tn is.length = T1 ∧ Hn is.length = H1 ∧ ∀ i x, is[i]? = some x → StepC E n ch (j + i) x (Tn i) (Tn (i + 1)) (Hn i) (Hn (i + 1)) (r i)
  | 0, _, _, _, _, _, _, h => by simp [evC] at h
  | n + 1, j, [], T, T1, H, H1, h => by
    simp only [evC, Option.some.injEq, Prod.mk.injEq] at h
    exact ⟨fun _ => T, fun _ => H, fun _ => .tup [], rfl, rfl, h.1, h.2, by simp⟩
  | n + 1, j, x :: is, T, T1, H, H1, h => by
    have key : ∀ (v : V) (H2 : Heap), evC E n (j + 1) ch is (put T x.dst v) H2 = some (T1, H1) → StepC E (n + 1) ch j x T (put T x.dst v) H H2 v →
        ∃ (Tn : Nat → Tm) (Hn : Nat → Heap) (r : Nat → V), Tn 0 = T ∧ Hn 0 = H ∧ Tn (x :: is).length = T1 ∧ Hn (x :: is).length = H1 ∧ ∀ i y, (x :: is)[i]? = some y → StepC E (n + 1) ch (j + i) y (Tn i) (Tn (i + 1)) (Hn i) (Hn (i + 1)) (r i) := by
      intro v H2 hv hs
      obtain ⟨Tn, Hn, r, h1, h1', h2, h2', h3⟩ := tr_C hv
      refine ⟨fun i => match i with | 0 => T | i + 1 => Tn i, fun i => match i with | 0 => H | i + 1 => Hn i, fun i => match i with | 0 => v | i + 1 => r i, rfl, rfl, h2, h2', fun i y hy => ?_⟩
      cases i with
      | zero =>
        simp at hy
        subst hy
        simp only [Nat.add_zero, h1, h1']
        exact hs
      | succ i =>
        have := h3 i y (by simpa using hy)
        rw [show j + 1 + i = j + (i + 1) by omega] at this
        exact this.mono (Nat.le_succ n)
    simp only [evC] at h
    split at h
    · simp at h
    · rename_i hw
      exact key _ _ h ⟨rfl, .inl ⟨hw, rfl, rfl⟩⟩
    · rename_i hw
      split at h
      · rename_i hc
        split at h
        · simp at h
        · rename_i v hv
          exact key v H h ⟨rfl, .inr ⟨hw, .inr ⟨by simpa using hc, n, none, by omega, hv, rfl⟩⟩⟩
        · rename_i v H2 hv
          exact key v H2 h ⟨rfl, .inr ⟨hw, .inr ⟨by simpa using hc, n, some H2, by omega, hv, rfl⟩⟩⟩
      · rename_i hc
        split at h
        · rename_i v hv
          exact key v H h ⟨rfl, .inr ⟨hw, .inl ⟨by simpa using hc, hv, rfl⟩⟩⟩
        · simp at h

section
variable {P : Program} {E : Env}

def DrawCOk (P : Program) (E : Env) (n : Nat) : Prop :=
  ∀ (is : List Ins) (ch : List Nat) (T : Tm) (H : Heap) (T2 : Tm) (H' : Heap), evC E n 0 ch is T H = some (T2, H') →
    ∀ (N : Nat) (ops : Array Oper), fitC P N ops is ch = true → ∀ (e : Fr) (t : Nat) (k : List Item) (cs : List Frame) (w : World) (mu : List Nat) (tmps : Array Value), tmps.size = N → R mu H.blks w → RelT (ctx mu H.blks w) T tmps →
      ∃ mu' tmps' w', Steps P (lone (mkF e tmps (.inRegion ops (Region.schedule (P.follows .mixedOrders) ops t) :: k)) cs w) (lone (mkF e tmps' (.inRegion ops [] :: k)) cs w') ∧
        Ext (ctx mu H.blks w) (ctx mu' H'.blks w') ∧ R mu' H'.blks w' ∧ RelT (ctx mu' H'.blks w') T2 tmps' ∧ tmps'.size = N ∧ Keeps H H'

/-- where the model stands in a drawing region -/
structure InvC (P : Program) (N : Nat) (ops : Array Oper) (is : List Ins) (ch : List Nat) (T : Tm) (Hn : Nat → Heap) (r : Nat → V) (listed : Array Bool) (m : Nat) (tmps : Array Value) (w : World) (mu : List Nat) : Prop where
  size : listed.size = ops.size
  down : ∀ (j : Nat) (o : Oper), listed.getD j false = true → ops[j]? = some o → ∀ d, d ∈ preds o → listed.getD d false = true
  m_le : m ≤ is.length
  tails : ∀ (j : Nat), j ∈ ch → j < is.length → (listed.getD j false = true ↔ j < m)
  R : R mu (Hn m).blks w
  vals : ∀ (i : Nat) (x : Ins) (t : Nat), is[i]? = some x → listed.getD i false = true → x.dst = some t → ∃ u, tmps[t]? = some u ∧ Rep (ctx mu (Hn m).blks w) (r i) u
  olds : ∀ (t : Nat) (v : V), (∀ (i : Nat) (x : Ins), is[i]? = some x → listed.getD i false = true → x.dst ≠ some t) → T.get t = some v → ∃ u, tmps[t]? = some u ∧ Rep (ctx mu (Hn m).blks w) v u
  sizeT : tmps.size = N

theorem runC_ok {n : Nat} (hI : ∀ m, m ≤ n → InsOk P E m) {is : List Ins} {ch : List Nat} {T T2 : Tm} {H' : Heap} {N : Nat} {ops : Array Oper} {A : List (List Nat)} {Tn : Nat → Tm} {Hn : Nat → Heap} {r : Nat → V}
    (hA : ancOk A ops = true) (hlen : is.length = ops.size)
    (hget' : ∀ (i : Nat) (x : Ins), is[i]? = some x → ∃ o, ops[i]? = some o ∧ fitIns P N ops x o = true)
    (hpair : ∀ i j x y, is[i]? = some x → is[j]? = some y → i ≠ j → (∀ t, x.dst = some t → y.dst ≠ some t) ∧ (∀ t, y.dst = some t → t ∈ x.reads → if j < i then (A.getD i []).contains j = true else (A.getD j []).contains i = true))
    (htail : ∀ i j, i < is.length → j < is.length → j ∈ ch → i < j → i ∈ ch → (A.getD j []).contains i = true)
    (t2 : Tn is.length = T2) (t3 : Hn is.length = H')
    (t4 : ∀ i x, is[i]? = some x → StepC E n ch i x (Tn i) (Tn (i + 1)) (Hn i) (Hn (i + 1)) (r i))
    (hTn : ∀ i, i ≤ is.length → ∀ t, (∃ j x, j < i ∧ is[j]? = some x ∧ x.dst = some t ∧ (Tn i).get t = some (r j)) ∨ ((∀ j x, j < i → is[j]? = some x → x.dst ≠ some t) ∧ (Tn i).get t = T.get t))
    (e : Fr) (k : List Item) (cs : List Frame) :
    ∀ (fuel t : Nat) (listed : Array Bool) (m : Nat) (tmps : Array Value) (w : World) (mu : List Nat), InvC P N ops is ch T Hn r listed m tmps w mu → (∀ l : List Nat, (∀ j, j ∈ l → j < ops.size ∧ listed.getD j false = false) → l.Nodup → l.length ≤ fuel) →
      ∃ mu' tmps' w', Steps P (lone (mkF e tmps (.inRegion ops (Region.linearise.go .any ops fuel t listed []) :: k)) cs w) (lone (mkF e tmps' (.inRegion ops [] :: k)) cs w') ∧
        Ext (ctx mu (Hn m).blks w) (ctx mu' H'.blks w') ∧ R mu' H'.blks w' ∧ RelT (ctx mu' H'.blks w') T2 tmps' ∧ tmps'.size = N ∧ Keeps (Hn m) H' := by
  have hsame : ∀ i x, is[i]? = some x → i ∉ ch → Hn (i + 1) = Hn i := by
    intro i x hx hi
    obtain ⟨_, h⟩ := t4 i x hx
    rcases h with ⟨_, _, h⟩ | ⟨_, ⟨_, _, h⟩ | ⟨h, _⟩⟩
    · exact h
    · exact h
    · exact absurd h hi
  have hconst : ∀ (d a : Nat), a + d ≤ is.length → (∀ j, a ≤ j → j < a + d → j ∉ ch) → Hn (a + d) = Hn a := by
    intro d
    induction d with
    | zero => intro a _ _; rfl
    | succ d ihd =>
      intro a hl hno
      rw [show a + (d + 1) = a + d + 1 by omega, hsame (a + d) _ (List.getElem?_eq_getElem (by omega)) (hno _ (by omega) (by omega))]
      exact ihd a (by omega) (fun j h1 h2 => hno j h1 (by omega))
  -- the run
  have main : ∀ (fuel t : Nat) (listed : Array Bool) (m : Nat) (tmps : Array Value) (w : World) (mu : List Nat), InvC P N ops is ch T Hn r listed m tmps w mu → (∀ l : List Nat, (∀ j, j ∈ l → j < ops.size ∧ listed.getD j false = false) → l.Nodup → l.length ≤ fuel) →
      ∃ mu' tmps' w', Steps P (lone (mkF e tmps (.inRegion ops (Region.linearise.go .any ops fuel t listed []) :: k)) cs w) (lone (mkF e tmps' (.inRegion ops [] :: k)) cs w') ∧
        Ext (ctx mu (Hn m).blks w) (ctx mu' H'.blks w') ∧ R mu' H'.blks w' ∧ RelT (ctx mu' H'.blks w') T2 tmps' ∧ tmps'.size = N ∧ Keeps (Hn m) H' := by
    have done : ∀ (listed : Array Bool) (m : Nat) (tmps : Array Value) (w : World) (mu : List Nat), InvC P N ops is ch T Hn r listed m tmps w mu → (∀ j, j < ops.size → listed.getD j false = true) →
        ∃ mu' tmps' w', Steps P (lone (mkF e tmps (.inRegion ops [] :: k)) cs w) (lone (mkF e tmps' (.inRegion ops [] :: k)) cs w') ∧
        Ext (ctx mu (Hn m).blks w) (ctx mu' H'.blks w') ∧ R mu' H'.blks w' ∧ RelT (ctx mu' H'.blks w') T2 tmps' ∧ tmps'.size = N ∧ Keeps (Hn m) H' := by
      intro listed m tmps w mu hi hl
      have hHm : Hn m = H' := by
        have h1 := hi.m_le
        have := hconst (is.length - m) m (by omega) (fun j h1 h2 hj => by
          have := (hi.tails j hj (by omega)).1 (hl j (by omega))
          omega)
        rw [show m + (is.length - m) = is.length by omega] at this
        rw [← this, t3]
      have hR' := hi.R
      rw [hHm] at hR'
      refine ⟨mu, tmps, w, .refl P _, ?_, hR', ⟨fun t v hv => ?_⟩, hi.sizeT, ?_⟩
      · rw [hHm]; exact Ext.refl _
      · rw [← t2] at hv
        rcases hTn is.length (Nat.le_refl _) t with ⟨j, x, q1, q2, q3, q4⟩ | ⟨q1, q2⟩
        · rw [q4] at hv
          cases hv
          have := hi.vals j x t q2 (hl j (by omega)) q3
          rw [hHm] at this
          exact this
        · rw [q2] at hv
          have := hi.olds t v (fun i x hx _ => q1 i x (List.getElem?_eq_some_iff.1 hx).1 hx) hv
          rw [hHm] at this
          exact this
      · rw [hHm]; exact Keeps.refl _
    intro fuel
    induction fuel with
    | zero =>
      intro t listed m tmps w mu hi hc
      simp only [Region.linearise.go, List.reverse_nil]
      refine done listed m tmps w mu hi (fun j hj => ?_)
      cases hl : listed.getD j false with
      | true => rfl
      | false =>
        have := hc [j] (by intro q hq; rw [List.mem_singleton] at hq; subst hq; exact ⟨hj, hl⟩) (by simp)
        simp at this
    | succ fuel ih =>
      intro t listed m tmps w mu hi hc
      simp only [Region.linearise.go]
      change ∃ mu' tmps' w', Steps P (lone (mkF e tmps (.inRegion ops (match (Region.ready .any ops listed)[t % (Region.ready .any ops listed).length]? with
        | some i => Region.linearise.go .any ops fuel (t / (Region.ready .any ops listed).length) (listed.setIfInBounds i true) [i]
        | none => [].reverse) :: k)) cs w) _ ∧ _
      cases hi' : (Region.ready .any ops listed)[t % (Region.ready .any ops listed).length]? with
      | none =>
        have hnil : Region.ready .any ops listed = [] := by
          cases hr : Region.ready .any ops listed with
          | nil => rfl
          | cons x xs =>
            rw [hr] at hi'
            have hlt : t % (x :: xs).length < (x :: xs).length := Nat.mod_lt _ (by simp)
            simp at hi'
            simp at hlt
            omega
        simp only [List.reverse_nil]
        exact done listed m tmps w mu hi (ready_all hA hi.size hnil)
      | some i =>
        simp only []
        rw [linearise_go_acc, List.reverse_singleton, List.singleton_append]
        have hmem : i ∈ Region.ready .any ops listed := List.mem_of_getElem? hi'
        obtain ⟨o, ho, his, hli, hpr⟩ := ready_spec hmem hi.size
        have hin : i < is.length := by omega
        have hx := List.getElem?_eq_getElem hin
        generalize hxe : is[i] = x at hx
        obtain ⟨o', ho', hfi⟩ := hget' i x hx
        rw [ho] at ho'
        cases ho'
        have hfi' := hfi
        simp only [fitIns, Bool.and_eq_true, beq_iff_eq] at hfi'
        obtain ⟨⟨⟨hd1, hd2⟩, hg⟩, hfo⟩ := hfi'
        have hanc := anc_listed hA hi.down
        have hlist : ∀ j, (A.getD i []).contains j = true → listed.getD j false = true := fun j hj => hanc i o ho hpr j hj
        have hnoanc : ∀ j, j < ops.size → listed.getD j false = true → (A.getD j []).contains i = false := by
          intro j hj hl
          cases hcc : (A.getD j []).contains i with
          | false => rfl
          | true =>
            have := hanc j _ (Array.getElem?_eq_getElem hj) (fun d hd => hi.down j _ hl (Array.getElem?_eq_getElem hj) d hd) i hcc
            rw [hli] at this
            simp at this
        -- what the operation reads
        have hTx : RelT (ctx mu (Hn m).blks w) ((Tn i).keep x.reads) tmps := by
          refine ⟨fun tt v hv => ?_⟩
          have hin' := get_keep_in hv
          have hv' := get_keep hv
          rcases hTn i (by omega) tt with ⟨j, y, q1, q2, q3, q4⟩ | ⟨q1, q2⟩
          · have hp := (hpair i j x y hx q2 (by omega)).2 tt q3 hin'
            rw [if_pos q1] at hp
            rw [q4] at hv'
            cases hv'
            exact hi.vals j y tt q2 (hlist j hp) q3
          · rw [q2] at hv'
            refine hi.olds tt v (fun j y hy hl hd => ?_) hv'
            by_cases hji : j = i
            · subst hji
              rw [hli] at hl
              simp at hl
            · by_cases hlt : j < i
              · exact q1 j y hlt hy hd
              · have hp := (hpair i j x y hx hy (Ne.symm hji)).2 tt hd hin'
                rw [if_neg hlt] at hp
                have hjs := (List.getElem?_eq_some_iff.1 hy).1
                rw [hnoanc j (by omega) hl] at hp
                simp at hp
        have hcongr : ∀ tt, tt ∈ x.reads → ((Tn i).keep x.reads).get tt = (Tn i).get tt := fun tt ht => get_keep_mem ht
        have hdstlt : ∀ d, x.dst = some d → d < tmps.size := by
          intro d hd
          rw [hd] at hd2
          rw [hi.sizeT]
          simpa using hd2
        obtain ⟨_, hstep⟩ := t4 i x hx
        have hpos : i ∈ ch → m ≤ i ∧ Hn i = Hn m ∧ ∀ j, m ≤ j → j < i → j ∉ ch := by
          intro hic
          have hle : m ≤ i := by
            by_cases hgt : i < m
            · have := (hi.tails i hic hin).2 hgt
              rw [hli] at this
              simp at this
            · omega
          have hno : ∀ j, m ≤ j → j < i → j ∉ ch := by
            intro j h1 h2 hj
            have := (hi.tails j hj (by omega)).1 (hlist j (htail j i (by omega) hin hic h2 hj))
            omega
          refine ⟨hle, ?_, hno⟩
          have := hconst (i - m) m (by omega) (fun j h1 h2 => hno j h1 (by omega))
          rw [show m + (i - m) = i by omega] at this
          exact this
        -- how the invariant goes on
        have next : ∀ (m' : Nat) (w' : World) (mu' : List Nat) (u : Value), Ext (ctx mu (Hn m).blks w) (ctx mu' (Hn m').blks w') → R mu' (Hn m').blks w' → Rep (ctx mu' (Hn m').blks w') (r i) u →
            ((i ∉ ch ∧ m' = m) ∨ (i ∈ ch ∧ m' = i + 1)) → InvC P N ops is ch T Hn r (listed.setIfInBounds i true) m' (putA tmps x.dst u) w' mu' := by
          intro m' w' mu' u hE hR' hr' hm'
          have hsz : i < listed.size := by rw [hi.size]; exact his
          have hgs := fun j => getD_set listed hsz j
          refine ⟨by simp [hi.size], fun j oj hj hoj d hd => ?_, ?_, fun j hj1 hj2 => ?_, hR', fun j y tt hy hl hd => ?_, fun tt v hno hv => ?_, ?_⟩
          · rw [hgs] at hj ⊢
            simp only [Bool.or_eq_true, decide_eq_true_eq] at hj ⊢
            rcases hj with rfl | hj
            · rw [ho] at hoj
              cases hoj
              exact .inr (hpr d hd)
            · exact .inr (hi.down j oj hj hoj d hd)
          · have := hi.m_le
            rcases hm' with ⟨_, rfl⟩ | ⟨_, rfl⟩ <;> omega
          · rw [hgs]
            simp only [Bool.or_eq_true, decide_eq_true_eq]
            have := hi.tails j hj1 hj2
            rcases hm' with ⟨q1, rfl⟩ | ⟨q1, rfl⟩
            · constructor
              · rintro (rfl | hh)
                · exact absurd hj1 q1
                · exact this.1 hh
              · intro hh
                exact .inr (this.2 hh)
            · obtain ⟨p1, _, p3⟩ := hpos q1
              constructor
              · rintro (rfl | hh)
                · omega
                · have := this.1 hh
                  omega
              · intro hh
                by_cases e0 : i = j
                · exact .inl e0
                · refine .inr (this.2 ?_)
                  by_cases hm : j < m
                  · exact hm
                  · exact absurd hj1 (p3 j (by omega) (by omega))
          · rw [hgs] at hl
            simp only [Bool.or_eq_true, decide_eq_true_eq] at hl
            by_cases hji : i = j
            · subst hji
              rw [hx] at hy
              cases hy
              refine ⟨u, ?_, hr'⟩
              rw [hd]
              have := hdstlt tt hd
              simp [putA, Array.getElem?_setIfInBounds, this]
            · have hl' : listed.getD j false = true := hl.resolve_left hji
              obtain ⟨u0, a1, a2⟩ := hi.vals j y tt hy hl' hd
              refine ⟨u0, ?_, Rep.mono hE _ _ a2⟩
              cases hxd : x.dst with
              | none => exact a1
              | some d =>
                have hne : d ≠ tt := by
                  intro e0
                  subst e0
                  exact (hpair i j x y hx hy hji).1 d hxd hd
                simp only [putA]
                rw [Array.getElem?_setIfInBounds_ne hne]
                exact a1
          · have hxd : x.dst ≠ some tt := hno i x hx (by rw [hgs]; simp)
            obtain ⟨u0, a1, a2⟩ := hi.olds tt v (fun j y hy hl => hno j y hy (by rw [hgs, hl]; simp)) hv
            refine ⟨u0, ?_, Rep.mono hE _ _ a2⟩
            cases hxd' : x.dst with
            | none => exact a1
            | some d =>
              have hne : d ≠ tt := by
                intro e0
                subst e0
                exact hxd hxd'
              simp only [putA]
              rw [Array.getElem?_setIfInBounds_ne hne]
              exact a1
          · rw [putA_size]; exact hi.sizeT
        have hcount : ∀ l : List Nat, (∀ j, j ∈ l → j < ops.size ∧ (listed.setIfInBounds i true).getD j false = false) → l.Nodup → l.length ≤ fuel := by
          intro l hl hnd
          have hsz : i < listed.size := by rw [hi.size]; exact his
          have hgs := fun j => getD_set listed hsz j
          have := hc (i :: l) (by
            intro j hj
            rcases List.mem_cons.1 hj with rfl | hj
            · exact ⟨his, hli⟩
            · obtain ⟨a, b⟩ := hl j hj
              rw [hgs] at b
              simp only [Bool.or_eq_false_iff] at b
              exact ⟨a, b.2⟩) (by
            rw [List.nodup_cons]
            refine ⟨fun hmem => ?_, hnd⟩
            have := (hl i hmem).2
            rw [hgs] at this
            simp at this)
          simp at this
          omega
        have finish : ∀ (m' : Nat) (w' : World) (mu' : List Nat) (u : Value), Steps P (lone (mkF e tmps (.inRegion ops (i :: Region.linearise.go .any ops fuel (t / (Region.ready .any ops listed).length) (listed.setIfInBounds i true) []) :: k)) cs w)
              (lone (mkF e (putA tmps x.dst u) (.inRegion ops (Region.linearise.go .any ops fuel (t / (Region.ready .any ops listed).length) (listed.setIfInBounds i true) []) :: k)) cs w') →
            Ext (ctx mu (Hn m).blks w) (ctx mu' (Hn m').blks w') → R mu' (Hn m').blks w' → Rep (ctx mu' (Hn m').blks w') (r i) u → Keeps (Hn m) (Hn m') → ((i ∉ ch ∧ m' = m) ∨ (i ∈ ch ∧ m' = i + 1)) →
            ∃ mu' tmps' w', Steps P (lone (mkF e tmps (.inRegion ops (i :: Region.linearise.go .any ops fuel (t / (Region.ready .any ops listed).length) (listed.setIfInBounds i true) []) :: k)) cs w) (lone (mkF e tmps' (.inRegion ops [] :: k)) cs w') ∧
              Ext (ctx mu (Hn m).blks w) (ctx mu' H'.blks w') ∧ R mu' H'.blks w' ∧ RelT (ctx mu' H'.blks w') T2 tmps' ∧ tmps'.size = N ∧ Keeps (Hn m) H' := by
          intro m' w' mu' u hs hE hR' hr' hk hm'
          obtain ⟨mu2, tmps2, w2, b1, b2, b3, b4, b5, b6⟩ := ih _ _ m' _ w' mu' (next m' w' mu' u hE hR' hr' hm') hcount
          exact ⟨mu2, tmps2, w2, hs.trans b1, hE.trans b2, b3, b4, b5, hk.trans b6⟩
        have hwantc : wanted ((Tn i).keep x.reads) x.guard = wanted (Tn i) x.guard := wanted_congr (fun tt b hgb => hcongr tt (by simp [Ins.reads, hgb]))
        have hdd : o.dst = x.dst := hd1.symm
        rcases hstep with ⟨hw, hr0, hH⟩ | ⟨hw, hcase⟩
        · -- not wanted
          rw [← hwantc] at hw
          have hw' := wanted_spec hTx hg hw
          have hs := s_opSkip (P := P) (e := e) (k := k) (cs := cs) (w := w) (rest := Region.linearise.go .any ops fuel (t / (Region.ready .any ops listed).length) (listed.setIfInBounds i true) []) (ops := ops) (i := i) (t := tmps) (by simp [ho, hw'])
          rw [ho] at hs
          simp only [Option.bind_some, hdd] at hs
          have hru : Rep (ctx mu (Hn m).blks w) (r i) undef := by
            rw [hr0]
            simp only [Rep]
            exact ⟨#[], rfl, by simp [Reps]⟩
          by_cases hic : i ∈ ch
          · obtain ⟨p1, p2, p3⟩ := hpos hic
            have hHe : Hn (i + 1) = Hn m := by rw [hH, p2]
            have e1 : Ext (ctx mu (Hn m).blks w) (ctx mu (Hn (i + 1)).blks w) := by rw [hHe]; exact Ext.refl _
            exact finish (i + 1) w mu undef (.one hs) e1 (by rw [hHe]; exact hi.R) (by rw [hHe]; exact hru) (by rw [hHe]; exact Keeps.refl _) (.inr ⟨hic, rfl⟩)
          · exact finish m w mu undef (.one hs) (Ext.refl _) hi.R hru (Keeps.refl _) (.inl ⟨hic, rfl⟩)
        · rw [← hwantc] at hw
          have hw' := wanted_spec hTx hg hw
          have hnd := fitO_notDefer hfo
          rcases hcase with ⟨hic, hp, hH⟩ | ⟨hic, m0, oH, hm0, hp, hH⟩
          · -- asks nothing of memory
            rw [← evP_congr (T := (Tn i).keep x.reads) (fun tt ht => hcongr tt (by simp [Ins.reads, ht]))] at hp
            obtain ⟨mu', u, w', g1, g2, g3, g4, g5⟩ := okH_of_okP hi.R (evP_ok (P := P) hi.R hTx hp hfo)
            simp only [Option.getD_none] at g2 g3 g4 g5
            have hs := s_op (P := P) (e := e) (k := k) (cs := cs) (rest := Region.linearise.go .any ops fuel (t / (Region.ready .any ops listed).length) (listed.setIfInBounds i true) []) ho hw' hnd g1
            rw [hdd] at hs
            exact finish m w' mu' u (.one hs) g2 g3 g4 g5 (.inl ⟨hic, rfl⟩)
          · obtain ⟨p1, p2, p3⟩ := hpos hic
            rw [← evIns_congr (T := (Tn i).keep x.reads) hcongr, p2] at hp
            rw [p2] at hH
            obtain ⟨mu', u, w', g1, g2, g3, g4, g5⟩ := hI m0 hm0 x _ (Hn m) (r i) oH hp N ops o hfi e i _ k cs w mu tmps ho hw' hi.R hTx
            rw [← hH] at g2 g3 g4 g5
            rw [hdd] at g1
            exact finish (i + 1) w' mu' u g1 g2 g3 g4 g5 (.inr ⟨hic, rfl⟩)
  exact main

theorem drawC_ok {n : Nat} (hI : ∀ m, m ≤ n → InsOk P E m) : DrawCOk P E n := by
  intro is ch T H T2 H' h1 N ops hf e t k cs w mu tmps hN hR hT
  unfold fitC at hf
  simp only [Bool.and_eq_true, decide_eq_true_eq] at hf
  obtain ⟨⟨⟨hmix, hfit⟩, hA⟩, hall⟩ := hf
  generalize hAe : ancs ops.toList [] = A at hA hall
  obtain ⟨hlen, hget⟩ := fitInss_get hfit
  simp only [Array.length_toList] at hlen
  have hget' : ∀ (i : Nat) (x : Ins), is[i]? = some x → ∃ o, ops[i]? = some o ∧ fitIns P N ops x o = true := by
    intro i x hx
    obtain ⟨o, a, b⟩ := hget i x hx
    exact ⟨o, by simpa using a, b⟩
  have hpair := pair_spec (A := A) (is := is) (fun i j hi hj => by
    rw [List.all_eq_true] at hall
    have h3 := hall i (by simpa using hi)
    rw [List.all_eq_true] at h3
    have h4 := h3 j (by simpa using hj)
    simp only [Bool.and_eq_true] at h4
    exact h4.1)
  have htail : ∀ i j, i < is.length → j < is.length → j ∈ ch → i < j → i ∈ ch → (A.getD j []).contains i = true := by
    intro i j hi hj hjc hij hic
    rw [List.all_eq_true] at hall
    have h3 := hall i (by simpa using hi)
    rw [List.all_eq_true] at h3
    have h4 := h3 j (by simpa using hj)
    simp only [Bool.and_eq_true] at h4
    have h5 := h4.2
    unfold chOk at h5
    have e2 : decide (j ≤ i) = false := by simp; omega
    have e3 : ch.contains i = true := by simpa using hic
    have e4 : ch.contains j = true := by simpa using hjc
    rw [e2, e3, e4] at h5
    simpa using h5
  obtain ⟨Tn, Hn, r, t0, t1, t2, t3, t4⟩ := tr_C h1
  have t4' : ∀ i x, is[i]? = some x → StepC E n ch i x (Tn i) (Tn (i + 1)) (Hn i) (Hn (i + 1)) (r i) := fun i x hx => by
    have := t4 i x hx
    rwa [Nat.zero_add] at this
  have hTn := tn_of t0 (fun i x hx => (t4' i x hx).1)
  have hsched : Region.schedule (P.follows .mixedOrders) ops t = Region.linearise.go .any ops ops.size t (Array.replicate ops.size false) [] := by
    simp only [Region.schedule, hmix, Bool.true_or, if_true]
    rfl
  rw [hsched]
  have hrep : ∀ j, (Array.replicate ops.size false).getD j false = false := by
    intro j
    simp [Array.getD_eq_getD_getElem?, Array.getElem?_replicate]
    split <;> rfl
  have hinv : InvC P N ops is ch T Hn r (Array.replicate ops.size false) 0 tmps w mu := by
    refine ⟨by simp, fun j o hj => by rw [hrep] at hj; simp at hj, Nat.zero_le _, fun j hj1 hj2 => ?_, by rw [t1]; exact hR, fun i x tt hx hl => by rw [hrep] at hl; simp at hl, fun tt v _ hv => by rw [t1]; exact hT.get tt v hv, hN⟩
    rw [hrep]
    constructor
    · intro hh; simp at hh
    · intro hh; omega
  have hcnt : ∀ l : List Nat, (∀ j, j ∈ l → j < ops.size ∧ (Array.replicate ops.size false).getD j false = false) → l.Nodup → l.length ≤ ops.size := by
    intro l hl hnd
    exact nodup_le ops.size l hnd (fun j hj => (hl j hj).1)
  have := runC_ok hI hA hlen hget' hpair htail t2 t3 t4' hTn e k cs ops.size t _ 0 tmps w mu hinv hcnt
  rw [t1] at this
  exact this

end
end Go.Ev
