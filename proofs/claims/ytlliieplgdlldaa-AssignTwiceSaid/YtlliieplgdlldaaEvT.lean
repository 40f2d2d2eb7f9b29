/- Regions whose operations the model carries out in an order that it draws: the induction.
   Conditions: the region's edges are as 'fitD' asks. -/
import Derived.Test.YtlliieplgdlldaaEvS
namespace Go.Ev

section
variable {P : Program} {E : Env}

theorem nodup_le : ∀ (n : Nat) (l : List Nat), l.Nodup → (∀ j, j ∈ l → j < n) → l.length ≤ n
  | 0, l, _, h => by
    cases l with
    | nil => simp
    | cons a l => exact absurd (h a (by simp)) (by omega)
  | n + 1, l, hn, h => by
    by_cases hm : n ∈ l
    · have h1 := nodup_le n (l.erase n) (hn.erase n) (fun j hj => by
        have := (hn.mem_erase_iff).1 hj
        have := h j this.2
        omega)
      rw [List.length_erase_of_mem hm] at h1
      omega
    · have := nodup_le n l hn (fun j hj => by
        have := h j hj
        have : j ≠ n := fun e => hm (e ▸ hj)
        omega)
      omega

/-- where the model stands in a drawing region -/
structure Inv (P : Program) (N : Nat) (ops : Array Oper) (is : List Ins) (head : Nat) (T : Tm) (Hn : Nat → Heap) (r : Nat → V) (L0 : Nat → Prop) (listed : Array Bool) (m : Nat) (tmps : Array Value) (w : World) (mu : List Nat) : Prop where
  before : ∀ i, L0 i → listed.getD i false = true
  size : listed.size = ops.size
  down : ∀ (j : Nat) (o : Oper), listed.getD j false = true → ops[j]? = some o → ∀ d, d ∈ preds o → listed.getD d false = true
  head_le : head ≤ m
  m_le : m ≤ is.length
  tails : ∀ (j : Nat), head ≤ j → j < is.length → (listed.getD j false = true ↔ j < m)
  R : R mu (Hn m).blks w
  vals : ∀ (i : Nat) (x : Ins) (t : Nat), is[i]? = some x → listed.getD i false = true → x.dst = some t → ∃ u, tmps[t]? = some u ∧ Rep (ctx mu (Hn m).blks w) (r i) u
  olds : ∀ (t : Nat) (v : V), (∀ (i : Nat) (x : Ins), is[i]? = some x → listed.getD i false = true → x.dst ≠ some t) → T.get t = some v → ∃ u, tmps[t]? = some u ∧ Rep (ctx mu (Hn m).blks w) v u
  sizeT : tmps.size = N

theorem run_ok {n : Nat} (hI : ∀ m, m ≤ n → InsOk P E m) {is : List Ins} {head : Nat} {imp : List Nat} {T T2 : Tm} {H H' : Heap} {N : Nat} {ops : Array Oper} {A : List (List Nat)} {Tn : Nat → Tm} {Hn : Nat → Heap} {r : Nat → V} {L0 : Nat → Prop}
    (hA : ancOk A ops = true) (hlen : is.length = ops.size)
    (hget' : ∀ (i : Nat) (x : Ins), is[i]? = some x → ∃ o, ops[i]? = some o ∧ fitIns P N ops x o = true)
    (hpair : ∀ i j x y, is[i]? = some x → is[j]? = some y → i ≠ j → (∀ t, x.dst = some t → y.dst ≠ some t) ∧ (∀ t, y.dst = some t → t ∈ x.reads → if j < i then (A.getD i []).contains j = true else (A.getD j []).contains i = true))
    (htail : ∀ i j, i < is.length → j < is.length → head ≤ j → i < j → (i < head → i ∈ imp) → (A.getD j []).contains i = true)
    (t1 : ∀ i, i ≤ head → Hn i = H) (t2 : Tn is.length = T2) (t3 : Hn is.length = H')
    (t4 : ∀ i x, is[i]? = some x → ¬ L0 i → StepF E n head imp i x (Tn i) (Tn (i + 1)) (Hn i) (Hn (i + 1)) (r i))
    (hTn : ∀ i, i ≤ is.length → ∀ t, (∃ j x, j < i ∧ is[j]? = some x ∧ x.dst = some t ∧ (Tn i).get t = some (r j)) ∨ ((∀ j x, j < i → is[j]? = some x → x.dst ≠ some t) ∧ (Tn i).get t = T.get t))
    (e : Fr) (k : List Item) (cs : List Frame) :
    ∀ (fuel t : Nat) (listed : Array Bool) (m : Nat) (tmps : Array Value) (w : World) (mu : List Nat), Inv P N ops is head T Hn r L0 listed m tmps w mu → (∀ l : List Nat, (∀ j, j ∈ l → j < ops.size ∧ listed.getD j false = false) → l.Nodup → l.length ≤ fuel) →
      ∃ mu' tmps' w', Steps P (lone (mkF e tmps (.inRegion ops (Region.linearise.go .any ops fuel t listed []) :: k)) cs w) (lone (mkF e tmps' (.inRegion ops [] :: k)) cs w') ∧
        Ext (ctx mu (Hn m).blks w) (ctx mu' H'.blks w') ∧ R mu' H'.blks w' ∧ RelT (ctx mu' H'.blks w') T2 tmps' ∧ tmps'.size = N ∧ Keeps (Hn m) H' := by
  -- the run
  have main : ∀ (fuel t : Nat) (listed : Array Bool) (m : Nat) (tmps : Array Value) (w : World) (mu : List Nat), Inv P N ops is head T Hn r L0 listed m tmps w mu → (∀ l : List Nat, (∀ j, j ∈ l → j < ops.size ∧ listed.getD j false = false) → l.Nodup → l.length ≤ fuel) →
      ∃ mu' tmps' w', Steps P (lone (mkF e tmps (.inRegion ops (Region.linearise.go .any ops fuel t listed []) :: k)) cs w) (lone (mkF e tmps' (.inRegion ops [] :: k)) cs w') ∧
        Ext (ctx mu (Hn m).blks w) (ctx mu' H'.blks w') ∧ R mu' H'.blks w' ∧ RelT (ctx mu' H'.blks w') T2 tmps' ∧ tmps'.size = N ∧ Keeps (Hn m) H' := by
    have done : ∀ (listed : Array Bool) (m : Nat) (tmps : Array Value) (w : World) (mu : List Nat), Inv P N ops is head T Hn r L0 listed m tmps w mu → (∀ j, j < ops.size → listed.getD j false = true) →
        ∃ mu' tmps' w', Steps P (lone (mkF e tmps (.inRegion ops [] :: k)) cs w) (lone (mkF e tmps' (.inRegion ops [] :: k)) cs w') ∧
        Ext (ctx mu (Hn m).blks w) (ctx mu' H'.blks w') ∧ R mu' H'.blks w' ∧ RelT (ctx mu' H'.blks w') T2 tmps' ∧ tmps'.size = N ∧ Keeps (Hn m) H' := by
      intro listed m tmps w mu hi hl
      have hm : m = is.length := by
        have h1 := hi.m_le
        by_cases hlt : m < is.length
        · have := (hi.tails m hi.head_le hlt).1 (hl m (by omega))
          omega
        · omega
      have hHm : Hn m = H' := by rw [hm]; exact t3
      have hR' := hi.R
      rw [hHm] at hR'
      refine ⟨mu, tmps, w, .refl P _, ?_, hR', ⟨fun t v hv => ?_⟩, hi.sizeT, ?_⟩
      · rw [hHm]; exact Ext.refl _
      · rw [← t2] at hv
        rcases hTn is.length (Nat.le_refl _) t with ⟨j, x, q1, q2, q3, q4⟩ | ⟨q1, q2⟩
        · rw [q4] at hv
          cases hv
          have := hi.vals j x t q2 (hl j (by omega)) q3
          rw [hHm] at this
          exact this
        · rw [q2] at hv
          have := hi.olds t v (fun i x hx _ => q1 i x (List.getElem?_eq_some_iff.1 hx).1 hx) hv
          rw [hHm] at this
          exact this
      · rw [hHm]; exact Keeps.refl _
    intro fuel
    induction fuel with
    | zero =>
      intro t listed m tmps w mu hi hc
      simp only [Region.linearise.go, List.reverse_nil]
      refine done listed m tmps w mu hi (fun j hj => ?_)
      cases hl : listed.getD j false with
      | true => rfl
      | false =>
        have := hc [j] (by intro q hq; rw [List.mem_singleton] at hq; subst hq; exact ⟨hj, hl⟩) (by simp)
        simp at this
    | succ fuel ih =>
      intro t listed m tmps w mu hi hc
      simp only [Region.linearise.go]
      change ∃ mu' tmps' w', Steps P (lone (mkF e tmps (.inRegion ops (match (Region.ready .any ops listed)[t % (Region.ready .any ops listed).length]? with
        | some i => Region.linearise.go .any ops fuel (t / (Region.ready .any ops listed).length) (listed.setIfInBounds i true) [i]
        | none => [].reverse) :: k)) cs w) _ ∧ _
      cases hi' : (Region.ready .any ops listed)[t % (Region.ready .any ops listed).length]? with
      | none =>
        have hnil : Region.ready .any ops listed = [] := by
          cases hr : Region.ready .any ops listed with
          | nil => rfl
          | cons x xs =>
            rw [hr] at hi'
            have hlt : t % (x :: xs).length < (x :: xs).length := Nat.mod_lt _ (by simp)
            simp at hi'
            simp at hlt
            omega
        simp only [List.reverse_nil]
        exact done listed m tmps w mu hi (ready_all hA hi.size hnil)
      | some i =>
        simp only []
        rw [linearise_go_acc, List.reverse_singleton, List.singleton_append]
        have hmem : i ∈ Region.ready .any ops listed := List.mem_of_getElem? hi'
        obtain ⟨o, ho, his, hli, hpr⟩ := ready_spec hmem hi.size
        have hin : i < is.length := by omega
        have hx := List.getElem?_eq_getElem hin
        generalize hxe : is[i] = x at hx
        obtain ⟨o', ho', hfi⟩ := hget' i x hx
        rw [ho] at ho'
        cases ho'
        have hfi' := hfi
        simp only [fitIns, Bool.and_eq_true, beq_iff_eq] at hfi'
        obtain ⟨⟨⟨hd1, hd2⟩, hg⟩, hfo⟩ := hfi'
        have hanc := anc_listed hA hi.down
        have hlist : ∀ j, (A.getD i []).contains j = true → listed.getD j false = true := fun j hj => hanc i o ho hpr j hj
        have hnoanc : ∀ j, j < ops.size → listed.getD j false = true → (A.getD j []).contains i = false := by
          intro j hj hl
          cases hcc : (A.getD j []).contains i with
          | false => rfl
          | true =>
            have := hanc j _ (Array.getElem?_eq_getElem hj) (fun d hd => hi.down j _ hl (Array.getElem?_eq_getElem hj) d hd) i hcc
            rw [hli] at this
            simp at this
        -- what the operation reads
        have hTx : RelT (ctx mu (Hn m).blks w) ((Tn i).keep x.reads) tmps := by
          refine ⟨fun tt v hv => ?_⟩
          have hin' := get_keep_in hv
          have hv' := get_keep hv
          rcases hTn i (by omega) tt with ⟨j, y, q1, q2, q3, q4⟩ | ⟨q1, q2⟩
          · have hp := (hpair i j x y hx q2 (by omega)).2 tt q3 hin'
            rw [if_pos q1] at hp
            rw [q4] at hv'
            cases hv'
            exact hi.vals j y tt q2 (hlist j hp) q3
          · rw [q2] at hv'
            refine hi.olds tt v (fun j y hy hl hd => ?_) hv'
            by_cases hji : j = i
            · subst hji
              rw [hli] at hl
              simp at hl
            · by_cases hlt : j < i
              · exact q1 j y hlt hy hd
              · have hp := (hpair i j x y hx hy (Ne.symm hji)).2 tt hd hin'
                rw [if_neg hlt] at hp
                have hjs := (List.getElem?_eq_some_iff.1 hy).1
                rw [hnoanc j (by omega) hl] at hp
                simp at hp
        have hcongr : ∀ tt, tt ∈ x.reads → ((Tn i).keep x.reads).get tt = (Tn i).get tt := fun tt ht => get_keep_mem ht
        have hdstlt : ∀ d, x.dst = some d → d < tmps.size := by
          intro d hd
          rw [hd] at hd2
          rw [hi.sizeT]
          simpa using hd2
        obtain ⟨_, hstep⟩ := t4 i x hx (fun hL => by
          have := hi.before i hL
          rw [hli] at this
          simp at this)
        -- how the invariant goes on
        have next : ∀ (m' : Nat) (w' : World) (mu' : List Nat) (u : Value), Ext (ctx mu (Hn m).blks w) (ctx mu' (Hn m').blks w') → R mu' (Hn m').blks w' → Rep (ctx mu' (Hn m').blks w') (r i) u →
            ((i < head ∧ m' = m) ∨ (head ≤ i ∧ m = i ∧ m' = i + 1)) → Inv P N ops is head T Hn r L0 (listed.setIfInBounds i true) m' (putA tmps x.dst u) w' mu' := by
          intro m' w' mu' u hE hR' hr' hm'
          have hsz : i < listed.size := by rw [hi.size]; exact his
          have hgs := fun j => getD_set listed hsz j
          refine ⟨fun q hq => by rw [hgs, hi.before q hq]; simp, by simp [hi.size], fun j oj hj hoj d hd => ?_, ?_, ?_, fun j hj1 hj2 => ?_, hR', fun j y tt hy hl hd => ?_, fun tt v hno hv => ?_, ?_⟩
          · rw [hgs] at hj ⊢
            simp only [Bool.or_eq_true, decide_eq_true_eq] at hj ⊢
            rcases hj with rfl | hj
            · rw [ho] at hoj
              cases hoj
              exact .inr (hpr d hd)
            · exact .inr (hi.down j oj hj hoj d hd)
          · have := hi.head_le
            rcases hm' with ⟨_, rfl⟩ | ⟨_, _, rfl⟩ <;> omega
          · have := hi.m_le
            rcases hm' with ⟨_, rfl⟩ | ⟨_, _, rfl⟩ <;> omega
          · rw [hgs]
            simp only [Bool.or_eq_true, decide_eq_true_eq]
            have := hi.tails j hj1 hj2
            rcases hm' with ⟨q1, rfl⟩ | ⟨q1, rfl, rfl⟩
            · constructor
              · rintro (rfl | hh)
                · omega
                · exact this.1 hh
              · intro hh
                exact .inr (this.2 hh)
            · constructor
              · rintro (rfl | hh)
                · omega
                · have := this.1 hh
                  omega
              · intro hh
                by_cases e0 : m = j
                · exact .inl e0
                · exact .inr (this.2 (by omega))
          · rw [hgs] at hl
            simp only [Bool.or_eq_true, decide_eq_true_eq] at hl
            by_cases hji : i = j
            · subst hji
              rw [hx] at hy
              cases hy
              refine ⟨u, ?_, hr'⟩
              rw [hd]
              have := hdstlt tt hd
              simp [putA, Array.getElem?_setIfInBounds, this]
            · have hl' : listed.getD j false = true := hl.resolve_left hji
              obtain ⟨u0, a1, a2⟩ := hi.vals j y tt hy hl' hd
              refine ⟨u0, ?_, Rep.mono hE _ _ a2⟩
              cases hxd : x.dst with
              | none => exact a1
              | some d =>
                have hne : d ≠ tt := by
                  intro e0
                  subst e0
                  exact (hpair i j x y hx hy hji).1 d hxd hd
                simp only [putA]
                rw [Array.getElem?_setIfInBounds_ne hne]
                exact a1
          · have hxd : x.dst ≠ some tt := hno i x hx (by rw [hgs]; simp)
            obtain ⟨u0, a1, a2⟩ := hi.olds tt v (fun j y hy hl => hno j y hy (by rw [hgs, hl]; simp)) hv
            refine ⟨u0, ?_, Rep.mono hE _ _ a2⟩
            cases hxd' : x.dst with
            | none => exact a1
            | some d =>
              have hne : d ≠ tt := by
                intro e0
                subst e0
                exact hxd hxd'
              simp only [putA]
              rw [Array.getElem?_setIfInBounds_ne hne]
              exact a1
          · rw [putA_size]; exact hi.sizeT
        have hcount : ∀ l : List Nat, (∀ j, j ∈ l → j < ops.size ∧ (listed.setIfInBounds i true).getD j false = false) → l.Nodup → l.length ≤ fuel := by
          intro l hl hnd
          have hsz : i < listed.size := by rw [hi.size]; exact his
          have hgs := fun j => getD_set listed hsz j
          have := hc (i :: l) (by
            intro j hj
            rcases List.mem_cons.1 hj with rfl | hj
            · exact ⟨his, hli⟩
            · obtain ⟨a, b⟩ := hl j hj
              rw [hgs] at b
              simp only [Bool.or_eq_false_iff] at b
              exact ⟨a, b.2⟩) (by
            rw [List.nodup_cons]
            refine ⟨fun hmem => ?_, hnd⟩
            have := (hl i hmem).2
            rw [hgs] at this
            simp at this)
          simp at this
          omega
        have finish : ∀ (m' : Nat) (w' : World) (mu' : List Nat) (u : Value), Steps P (lone (mkF e tmps (.inRegion ops (i :: Region.linearise.go .any ops fuel (t / (Region.ready .any ops listed).length) (listed.setIfInBounds i true) []) :: k)) cs w)
              (lone (mkF e (putA tmps x.dst u) (.inRegion ops (Region.linearise.go .any ops fuel (t / (Region.ready .any ops listed).length) (listed.setIfInBounds i true) []) :: k)) cs w') →
            Ext (ctx mu (Hn m).blks w) (ctx mu' (Hn m').blks w') → R mu' (Hn m').blks w' → Rep (ctx mu' (Hn m').blks w') (r i) u → Keeps (Hn m) (Hn m') → ((i < head ∧ m' = m) ∨ (head ≤ i ∧ m = i ∧ m' = i + 1)) →
            ∃ mu' tmps' w', Steps P (lone (mkF e tmps (.inRegion ops (i :: Region.linearise.go .any ops fuel (t / (Region.ready .any ops listed).length) (listed.setIfInBounds i true) []) :: k)) cs w) (lone (mkF e tmps' (.inRegion ops [] :: k)) cs w') ∧
              Ext (ctx mu (Hn m).blks w) (ctx mu' H'.blks w') ∧ R mu' H'.blks w' ∧ RelT (ctx mu' H'.blks w') T2 tmps' ∧ tmps'.size = N ∧ Keeps (Hn m) H' := by
          intro m' w' mu' u hs hE hR' hr' hk hm'
          obtain ⟨mu2, tmps2, w2, b1, b2, b3, b4, b5, b6⟩ := ih _ _ m' _ w' mu' (next m' w' mu' u hE hR' hr' hm') hcount
          exact ⟨mu2, tmps2, w2, hs.trans b1, hE.trans b2, b3, b4, b5, hk.trans b6⟩
        have hwantc : wanted ((Tn i).keep x.reads) x.guard = wanted (Tn i) x.guard := wanted_congr (fun tt b hgb => hcongr tt (by simp [Ins.reads, hgb]))
        have hdd : o.dst = x.dst := hd1.symm
        rcases hstep with ⟨hw, hr0, hH⟩ | ⟨hw, hcase⟩
        · -- not wanted
          rw [← hwantc] at hw
          have hw' := wanted_spec hTx hg hw
          have hs := s_opSkip (P := P) (e := e) (k := k) (cs := cs) (w := w) (rest := Region.linearise.go .any ops fuel (t / (Region.ready .any ops listed).length) (listed.setIfInBounds i true) []) (ops := ops) (i := i) (t := tmps) (by simp [ho, hw'])
          rw [ho] at hs
          simp only [Option.bind_some, hdd] at hs
          have hru : Rep (ctx mu (Hn m).blks w) (r i) undef := by
            rw [hr0]
            simp only [Rep]
            exact ⟨#[], rfl, by simp [Reps]⟩
          by_cases hih : i < head
          · exact finish m w mu undef (.one hs) (Ext.refl _) hi.R hru (Keeps.refl _) (.inl ⟨hih, rfl⟩)
          · -- a tail: all before it are done
            have hmi : m = i := by
              have hge := hi.head_le
              have hle := hi.m_le
              by_cases hlt : m < i
              · have := hlist m (htail m i (by omega) hin (by omega) hlt (fun hh => by omega))
                have := (hi.tails m hge (by omega)).1 this
                omega
              · by_cases hgt : i < m
                · have := (hi.tails i (by omega) hin).2 hgt
                  rw [hli] at this
                  simp at this
                · omega
            have hHe : Hn (i + 1) = Hn m := by rw [hH, hmi]
            have e1 : Ext (ctx mu (Hn m).blks w) (ctx mu (Hn (i + 1)).blks w) := by rw [hHe]; exact Ext.refl _
            exact finish (i + 1) w mu undef (.one hs) e1 (by rw [hHe]; exact hi.R) (by rw [hHe]; exact hru) (by rw [hHe]; exact Keeps.refl _) (.inr ⟨by omega, hmi, rfl⟩)
        · rw [← hwantc] at hw
          have hw' := wanted_spec hTx hg hw
          have hnd := fitO_notDefer hfo
          rcases hcase with ⟨hih, _, hp, hH⟩ | ⟨hih, himp, ⟨m0, hm0, hp⟩, hH⟩ | ⟨hih, m0, oH, hm0, hp, hH⟩
          · -- asks nothing of memory
            rw [← evP_congr (T := (Tn i).keep x.reads) (fun tt ht => hcongr tt (by simp [Ins.reads, ht]))] at hp
            obtain ⟨mu', u, w', g1, g2, g3, g4, g5⟩ := okH_of_okP hi.R (evP_ok (P := P) hi.R hTx hp hfo)
            simp only [Option.getD_none] at g2 g3 g4 g5
            have hs := s_op (P := P) (e := e) (k := k) (cs := cs) (rest := Region.linearise.go .any ops fuel (t / (Region.ready .any ops listed).length) (listed.setIfInBounds i true) []) ho hw' hnd g1
            rw [hdd] at hs
            exact finish m w' mu' u (.one hs) g2 g3 g4 g5 (.inl ⟨hih, rfl⟩)
          · -- reads memory: nothing has been written yet
            have hmh : m = head := by
              have hge := hi.head_le
              have hle := hi.m_le
              by_cases hlt : head < m
              · have hlh := (hi.tails head (Nat.le_refl _) (by omega)).2 hlt
                have := htail i head hin (by omega) (Nat.le_refl _) hih (fun _ => himp)
                rw [hnoanc head (by omega) hlh] at this
                simp at this
              · omega
            have hHi : Hn i = Hn m := by rw [t1 i (by omega), t1 m (by omega)]
            rw [← evIns_congr (T := (Tn i).keep x.reads) hcongr, hHi] at hp
            obtain ⟨mu', u, w', g1, g2, g3, g4, g5⟩ := hI m0 hm0 x _ (Hn m) (r i) none hp N ops o hfi e i _ k cs w mu tmps ho hw' hi.R hTx
            simp only [Option.getD_none] at g2 g3 g4 g5
            rw [hdd] at g1
            exact finish m w' mu' u g1 g2 g3 g4 g5 (.inl ⟨hih, rfl⟩)
          · have hmi : m = i := by
              have hge := hi.head_le
              have hle := hi.m_le
              by_cases hlt : m < i
              · have := hlist m (htail m i (by omega) hin (by omega) hlt (fun hh => by omega))
                have := (hi.tails m hge (by omega)).1 this
                omega
              · by_cases hgt : i < m
                · have := (hi.tails i (by omega) hin).2 hgt
                  rw [hli] at this
                  simp at this
                · omega
            rw [← evIns_congr (T := (Tn i).keep x.reads) hcongr] at hp
            subst hmi
            obtain ⟨mu', u, w', g1, g2, g3, g4, g5⟩ := hI m0 hm0 x _ (Hn m) (r m) oH hp N ops o hfi e m _ k cs w mu tmps ho hw' hi.R hTx
            rw [← hH] at g2 g3 g4 g5
            rw [hdd] at g1
            exact finish (m + 1) w' mu' u g1 g2 g3 g4 g5 (.inr ⟨hih, rfl, rfl⟩)
  exact main

theorem tn_of {is : List Ins} {T : Tm} {Tn : Nat → Tm} {r : Nat → V} (t0 : Tn 0 = T) (tput : ∀ i x, is[i]? = some x → Tn (i + 1) = put (Tn i) x.dst (r i)) :
    ∀ i, i ≤ is.length → ∀ t, (∃ j x, j < i ∧ is[j]? = some x ∧ x.dst = some t ∧ (Tn i).get t = some (r j)) ∨ ((∀ j x, j < i → is[j]? = some x → x.dst ≠ some t) ∧ (Tn i).get t = T.get t) := by
  intro i
  induction i with
  | zero => intro _ t; exact .inr ⟨fun j x hj => absurd hj (by omega), by rw [t0]⟩
  | succ i ih =>
    intro hi t
    have hlt : i < is.length := by omega
    rw [tput i is[i] (List.getElem?_eq_getElem hlt)]
    by_cases hd : (is[i]).dst = some t
    · refine .inl ⟨i, is[i], by omega, List.getElem?_eq_getElem hlt, hd, ?_⟩
      simp [put, hd, get_set]
    · have hsame : (put (Tn i) (is[i]).dst (r i)).get t = (Tn i).get t := by
        cases hdd : (is[i]).dst with
        | none => rfl
        | some d =>
          simp only [put, get_set]
          rw [if_neg (fun e => hd (by rw [hdd, e]))]
      rcases ih (by omega) t with ⟨j, x, q1, q2, q3, q4⟩ | ⟨q1, q2⟩
      · exact .inl ⟨j, x, by omega, q2, q3, by rw [hsame]; exact q4⟩
      · refine .inr ⟨fun j x hj hx => ?_, by rw [hsame]; exact q2⟩
        by_cases hji : j = i
        · subst hji
          rw [List.getElem?_eq_getElem hlt] at hx
          cases hx
          exact hd
        · exact q1 j x (by omega) hx

theorem pair_spec {A : List (List Nat)} {is : List Ins} (hall : ∀ i j, i < is.length → j < is.length → pairOk A is i j = true) :
    ∀ i j x y, is[i]? = some x → is[j]? = some y → i ≠ j → (∀ t, x.dst = some t → y.dst ≠ some t) ∧ (∀ t, y.dst = some t → t ∈ x.reads → if j < i then (A.getD i []).contains j = true else (A.getD j []).contains i = true) := by
  intro i j x y hx hy hij
  have h5 := hall i j (List.getElem?_eq_some_iff.1 hx).1 (List.getElem?_eq_some_iff.1 hy).1
  unfold pairOk at h5
  rw [hx, hy] at h5
  simp only [hij, decide_false, Bool.false_or, Bool.and_eq_true] at h5
  obtain ⟨h6, h7⟩ := h5
  constructor
  · intro t ht
    rw [ht] at h6
    simpa using h6
  · intro t ht hr
    rw [ht] at h7
    have hc : x.reads.contains t = true := by simpa using hr
    simp only [hc, Bool.not_true, Bool.false_or] at h7
    split at h7
    · rename_i hlt; rw [if_pos hlt]; exact h7
    · rename_i hlt; rw [if_neg hlt]; exact h7

theorem draw_ok {n : Nat} (hI : ∀ m, m ≤ n → InsOk P E m) : DrawOk P E n := by
  intro is head imp T H T1 T2 H' h1 h2 N ops hf e t k cs w mu tmps hN hR hT
  unfold fitD at hf
  simp only [Bool.and_eq_true, decide_eq_true_eq] at hf
  obtain ⟨⟨⟨⟨hmix, hfit⟩, hhead⟩, hA⟩, hall⟩ := hf
  generalize hAe : ancs ops.toList [] = A at hA hall
  obtain ⟨hlen, hget⟩ := fitInss_get hfit
  simp only [Array.length_toList] at hlen
  have hget' : ∀ (i : Nat) (x : Ins), is[i]? = some x → ∃ o, ops[i]? = some o ∧ fitIns P N ops x o = true := by
    intro i x hx
    obtain ⟨o, a, b⟩ := hget i x hx
    exact ⟨o, by simpa using a, b⟩
  have hpair := pair_spec (A := A) (is := is) (fun i j hi hj => by
    rw [List.all_eq_true] at hall
    have h3 := hall i (by simpa using hi)
    rw [List.all_eq_true] at h3
    have h4 := h3 j (by simpa using hj)
    simp only [Bool.and_eq_true] at h4
    exact h4.1)
  have htail : ∀ i j, i < is.length → j < is.length → head ≤ j → i < j → (i < head → i ∈ imp) → (A.getD j []).contains i = true := by
    intro i j hi hj hh hij himp
    rw [List.all_eq_true] at hall
    have h3 := hall i (by simpa using hi)
    rw [List.all_eq_true] at h3
    have h4 := h3 j (by simpa using hj)
    simp only [Bool.and_eq_true] at h4
    have h5 := h4.2
    unfold tailOk at h5
    have e1 : decide (j < head) = false := by simp; omega
    have e2 : decide (j ≤ i) = false := by simp; omega
    have e3 : (decide (i < head) && !imp.contains i) = false := by
      by_cases hc : i < head
      · have := himp hc
        simp [this]
      · simp [hc]
    rw [e1, e2, e3] at h5
    simpa using h5
  obtain ⟨Tn, Hn, r, t0, t1, t2, t3, t4⟩ := trace h1 h2 hhead
  have hTn := tn_of t0 (fun i x hx => (t4 i x hx).1)
  have hsched : Region.schedule (P.follows .mixedOrders) ops t = Region.linearise.go .any ops ops.size t (Array.replicate ops.size false) [] := by
    simp only [Region.schedule, hmix, Bool.true_or, if_true]
    rfl
  rw [hsched]
  have hrep : ∀ j, (Array.replicate ops.size false).getD j false = false := by
    intro j
    simp [Array.getD_eq_getD_getElem?, Array.getElem?_replicate]
    split <;> rfl
  have hH0 : Hn head = H := t1 head (Nat.le_refl _)
  have hinv : Inv P N ops is head T Hn r (fun _ => False) (Array.replicate ops.size false) head tmps w mu := by
    refine ⟨fun _ hf => hf.elim, by simp, fun j o hj => by rw [hrep] at hj; simp at hj, Nat.le_refl _, hhead, fun j hj1 hj2 => ?_, by rw [hH0]; exact hR, fun i x tt hx hl => by rw [hrep] at hl; simp at hl, fun tt v _ hv => by rw [hH0]; exact hT.get tt v hv, hN⟩
    rw [hrep]
    constructor
    · intro hh; simp at hh
    · intro hh; omega
  have hcnt : ∀ l : List Nat, (∀ j, j ∈ l → j < ops.size ∧ (Array.replicate ops.size false).getD j false = false) → l.Nodup → l.length ≤ ops.size := by
    intro l hl hnd
    exact nodup_le ops.size l hnd (fun j hj => (hl j hj).1)
  have := run_ok (L0 := fun _ => False) hI hA hlen hget' hpair htail t1 t2 t3 (fun i x hx _ => t4 i x hx) hTn e k cs ops.size t _ head tmps w mu hinv hcnt
  rw [hH0] at this
  exact this

end
end Go.Ev
