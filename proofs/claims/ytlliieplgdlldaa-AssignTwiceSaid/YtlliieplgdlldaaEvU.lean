/- Regions whose operations the model carries out in an order that it draws, operations that make new blocks among them.
   Conditions: the region's edges are as 'fitA' asks. -/
import Derived.Test.YtlliieplgdlldaaEvT
namespace Go.Ev

/-- one operation of 'evHeadsA' -/
def StepA (base : Nat) (al : List Nat) (bl : List ABlk) (i : Nat) (x : Ins) (T T' : Tm) (r : V) (q : Nat) (f : Nat → V) (b : ABlk) : Prop :=
  T' = put T x.dst r ∧ ((i ∈ al ∧ allocB T x.op = some (f, b) ∧ b.closed base = true ∧ r = f (base + q) ∧ bl[q]? = some b) ∨
    (i ∉ al ∧ ((wanted T x.guard = some false ∧ r = .tup []) ∨ (wanted T x.guard = some true ∧ evP T x.op = some r)) ∧ (r.closed base || plainMov x) = true))

theorem tr_headsA {base : Nat} {al : List Nat} : ∀ {j : Nat} {is : List Ins} {T T1 : Tm} {bs bl : List ABlk}, evHeadsA base j al is T bs = some (T1, bl) →
    ∃ (Tn : Nat → Tm) (r : Nat → V) (Q : Nat → Nat) (F : Nat → Nat → V) (B : Nat → ABlk), Tn 0 = T ∧ Tn is.length = T1 ∧ bs.length ≤ bl.length ∧ (∀ q, q < bs.length → bl[q]? = bs[q]?) ∧
      (∀ i x, is[i]? = some x → StepA base al bl (j + i) x (Tn i) (Tn (i + 1)) (r i) (Q i) (F i) (B i)) ∧
      (∀ i, i < is.length → j + i ∈ al → bs.length ≤ Q i ∧ Q i < bl.length) ∧ (∀ i i', i < is.length → i' < is.length → j + i ∈ al → j + i' ∈ al → Q i = Q i' → i = i') ∧
      (∀ q, bs.length ≤ q → q < bl.length → ∃ i, i < is.length ∧ j + i ∈ al ∧ Q i = q)
  | j, [], T, T1, bs, bl, h => by
    simp only [evHeadsA, Option.some.injEq, Prod.mk.injEq] at h
    obtain ⟨rfl, rfl⟩ := h
    exact ⟨fun _ => T, fun _ => .tup [], fun _ => 0, fun _ _ => .tup [], fun _ => .dead, rfl, rfl, Nat.le_refl _, fun _ _ => rfl, by simp, by simp, by simp, fun q h1 h2 => absurd h1 (by omega)⟩
  | j, x :: is, T, T1, bs, bl, h => by
    simp only [evHeadsA] at h
    split at h
    · rename_i hal
      have hal' : j ∈ al := by simpa using hal
      split at h <;> try simp only [reduceCtorEq] at h
      rename_i f b hab
      split at h <;> try simp only [reduceCtorEq] at h
      rename_i hcl
      obtain ⟨Tn, r, Q, F, B, h1, h2, h3, h4, h5, h6, h7, h8⟩ := tr_headsA h
      simp only [List.length_append, List.length_singleton] at h3 h4 h6 h8
      have hbl : bl[bs.length]? = some b := by
        rw [h4 _ (by omega)]
        simp
      refine ⟨fun i => match i with | 0 => T | i + 1 => Tn i, fun i => match i with | 0 => f (base + bs.length) | i + 1 => r i, fun i => match i with | 0 => bs.length | i + 1 => Q i, fun i => match i with | 0 => f | i + 1 => F i,
        fun i => match i with | 0 => b | i + 1 => B i, rfl, h2, by omega, fun q hq => ?_, fun i y hy => ?_, fun i hi ha => ?_, fun i i' hi hi' ha ha' hq => ?_, fun q hq1 hq2 => ?_⟩
      · rw [h4 q (by omega), List.getElem?_append_left hq]
      · cases i with
        | zero =>
          simp at hy
          subst hy
          simp only [Nat.add_zero, h1]
          exact ⟨rfl, .inl ⟨hal', hab, hcl, rfl, hbl⟩⟩
        | succ i =>
          have := h5 i y (by simpa using hy)
          rw [show j + 1 + i = j + (i + 1) by omega] at this
          exact this
      · cases i with
        | zero => exact ⟨Nat.le_refl _, by simp only; omega⟩
        | succ i =>
          have := h6 i (by simpa using hi) (by rw [show j + 1 + i = j + (i + 1) by omega]; exact ha)
          exact ⟨by simp only; omega, this.2⟩
      · cases i with
        | zero =>
          cases i' with
          | zero => rfl
          | succ i' =>
            have := h6 i' (by simpa using hi') (by rw [show j + 1 + i' = j + (i' + 1) by omega]; exact ha')
            simp only at hq
            omega
        | succ i =>
          cases i' with
          | zero =>
            have := h6 i (by simpa using hi) (by rw [show j + 1 + i = j + (i + 1) by omega]; exact ha)
            simp only at hq
            omega
          | succ i' =>
            have := h7 i i' (by simpa using hi) (by simpa using hi') (by rw [show j + 1 + i = j + (i + 1) by omega]; exact ha) (by rw [show j + 1 + i' = j + (i' + 1) by omega]; exact ha') hq
            omega
      · by_cases e : q = bs.length
        · exact ⟨0, by simp, by simpa using hal', e.symm⟩
        · obtain ⟨i, a, b', c⟩ := h8 q (by omega) hq2
          exact ⟨i + 1, by simpa using a, by rw [show j + (i + 1) = j + 1 + i by omega]; exact b', c⟩
    · rename_i hal
      have hal' : j ∉ al := by simpa using hal
      have key : ∀ (v : V), (v.closed base || plainMov x) = true → ((wanted T x.guard = some false ∧ v = .tup []) ∨ (wanted T x.guard = some true ∧ evP T x.op = some v)) → evHeadsA base (j + 1) al is (put T x.dst v) bs = some (T1, bl) →
          ∃ (Tn : Nat → Tm) (r : Nat → V) (Q : Nat → Nat) (F : Nat → Nat → V) (B : Nat → ABlk), Tn 0 = T ∧ Tn (x :: is).length = T1 ∧ bs.length ≤ bl.length ∧ (∀ q, q < bs.length → bl[q]? = bs[q]?) ∧
            (∀ i y, (x :: is)[i]? = some y → StepA base al bl (j + i) y (Tn i) (Tn (i + 1)) (r i) (Q i) (F i) (B i)) ∧
            (∀ i, i < (x :: is).length → j + i ∈ al → bs.length ≤ Q i ∧ Q i < bl.length) ∧ (∀ i i', i < (x :: is).length → i' < (x :: is).length → j + i ∈ al → j + i' ∈ al → Q i = Q i' → i = i') ∧
            (∀ q, bs.length ≤ q → q < bl.length → ∃ i, i < (x :: is).length ∧ j + i ∈ al ∧ Q i = q) := by
        intro v hcl hv h
        obtain ⟨Tn, r, Q, F, B, h1, h2, h3, h4, h5, h6, h7, h8⟩ := tr_headsA h
        refine ⟨fun i => match i with | 0 => T | i + 1 => Tn i, fun i => match i with | 0 => v | i + 1 => r i, fun i => match i with | 0 => 0 | i + 1 => Q i, fun i => match i with | 0 => fun _ => v | i + 1 => F i,
          fun i => match i with | 0 => .dead | i + 1 => B i, rfl, h2, h3, h4, fun i y hy => ?_, fun i hi ha => ?_, fun i i' hi hi' ha ha' hq => ?_, fun q hq1 hq2 => ?_⟩
        · cases i with
          | zero =>
            simp at hy
            subst hy
            simp only [Nat.add_zero, h1]
            exact ⟨rfl, .inr ⟨hal', hv, hcl⟩⟩
          | succ i =>
            have := h5 i y (by simpa using hy)
            rw [show j + 1 + i = j + (i + 1) by omega] at this
            exact this
        · cases i with
          | zero => exact absurd ha hal'
          | succ i => exact h6 i (by simpa using hi) (by rw [show j + 1 + i = j + (i + 1) by omega]; exact ha)
        · cases i with
          | zero => exact absurd ha hal'
          | succ i =>
            cases i' with
            | zero => exact absurd ha' hal'
            | succ i' =>
              have := h7 i i' (by simpa using hi) (by simpa using hi') (by rw [show j + 1 + i = j + (i + 1) by omega]; exact ha) (by rw [show j + 1 + i' = j + (i' + 1) by omega]; exact ha') hq
              omega
        · obtain ⟨i, a, b', c⟩ := h8 q hq1 hq2
          exact ⟨i + 1, by simpa using a, by rw [show j + (i + 1) = j + 1 + i by omega]; exact b', c⟩
      split at h
      · simp at h
      · rename_i hw
        exact key _ (by simp [V.closed, V.closedL]) (.inl ⟨hw, rfl⟩) h
      · rename_i hw
        split at h <;> try simp only [reduceCtorEq] at h
        rename_i v hv
        split at h <;> try simp only [reduceCtorEq] at h
        rename_i hcl
        exact key v hcl (.inr ⟨hw, hv⟩) h

section
variable {P : Program} {E : Env}

def DrawAOk (P : Program) (E : Env) (n : Nat) : Prop :=
  ∀ (is : List Ins) (head : Nat) (al : List Nat) (T : Tm) (H : Heap) (T1 : Tm) (bs : List ABlk) (T2 : Tm) (H' : Heap), evHeadsA H.blks.length 0 al (is.take head) T [] = some (T1, bs) → evReg E n (is.drop head) T1 ⟨H.blks ++ bs, H.wr⟩ = some (T2, H') →
    ∀ (N : Nat) (ops : Array Oper), fitA P N ops is head al = true → ∀ (e : Fr) (t : Nat) (k : List Item) (cs : List Frame) (w : World) (mu : List Nat) (tmps : Array Value), tmps.size = N → R mu H.blks w → RelT (ctx mu H.blks w) T tmps →
      ∃ mu' tmps' w', Steps P (lone (mkF e tmps (.inRegion ops (Region.schedule (P.follows .mixedOrders) ops t) :: k)) cs w) (lone (mkF e tmps' (.inRegion ops [] :: k)) cs w') ∧
        Ext (ctx mu H.blks w) (ctx mu' H'.blks w') ∧ R mu' H'.blks w' ∧ RelT (ctx mu' H'.blks w') T2 tmps' ∧ tmps'.size = N ∧ Keeps H H'

/-- where the model stands among the first operations -/
structure InvA (P : Program) (N : Nat) (ops : Array Oper) (is : List Ins) (head : Nat) (al : List Nat) (T : Tm) (H : Heap) (mu0 : List Nat) (w0 : World) (r : Nat → V) (F : Nat → Nat → V) (B : Nat → ABlk) (listed : Array Bool) (ex : List Nat) (tmps : Array Value) (w : World) (mu : List Nat) : Prop where
  size : listed.size = ops.size
  down : ∀ (j : Nat) (o : Oper), listed.getD j false = true → ops[j]? = some o → ∀ d, d ∈ preds o → listed.getD d false = true
  notail : ∀ (j : Nat), head ≤ j → listed.getD j false = false
  exal : ∀ i, i ∈ ex ↔ (i ∈ al ∧ listed.getD i false = true)
  nodup : ex.Nodup
  R : R mu (H.blks ++ ex.map B) w
  ext : Ext (ctx mu0 H.blks w0) (ctx mu (H.blks ++ ex.map B) w)
  cps : ∀ (i : Nat) (x : Ins) (k : Nat) (y : Ins) (s t : Nat), is[i]? = some x → listed.getD i false = true → i ∉ al → i < head → x.op = .mov (.t s) → k ∈ al → is[k]? = some y → y.dst = some s → x.dst = some t → isCp is head al x = true → listed.getD k false = true ∧ tmps[t]? = tmps[s]?
  vals : ∀ (i : Nat) (x : Ins) (t : Nat), is[i]? = some x → listed.getD i false = true → i ∉ al → isCp is head al x = false → x.dst = some t → ∃ u, tmps[t]? = some u ∧ Rep (ctx mu (H.blks ++ ex.map B) w) (r i) u
  als : ∀ (p i : Nat), ex[p]? = some i → ∃ u k obj, (∀ x t, is[i]? = some x → x.dst = some t → tmps[t]? = some u) ∧ mu[H.blks.length + p]? = some k ∧ w.heap[k]? = some obj ∧
    ∀ (C' : Ctx) (n : Nat), C'.mu[n]? = some k → C'.w.heap[k]? = some obj → Rep C' (F i n) u
  olds : ∀ (t : Nat) (v : V), (∀ (i : Nat) (x : Ins), is[i]? = some x → listed.getD i false = true → x.dst ≠ some t) → T.get t = some v → ∃ u, tmps[t]? = some u ∧ Rep (ctx mu (H.blks ++ ex.map B) w) v u
  sizeT : tmps.size = N

/-- the new blocks, in the order of the text -/
theorem perm_ok {H : Heap} {mu0 mu : List Nat} {w0 w : World} {B : Nat → ABlk} {ex : List Nat} {bl : List ABlk} {Q : Nat → Nat} (hR0 : R mu0 H.blks w0) (hE : Ext (ctx mu0 H.blks w0) (ctx mu (H.blks ++ ex.map B) w)) (hR : R mu (H.blks ++ ex.map B) w)
    (hQ : ∀ i, i ∈ ex → bl[Q i]? = some (B i)) (hcl : ∀ i, i ∈ ex → (B i).closed H.blks.length = true) (hinj : ∀ i i', i ∈ ex → i' ∈ ex → Q i = Q i' → i = i') (hsurj : ∀ q, q < bl.length → ∃ i, i ∈ ex ∧ Q i = q) (hnd : ex.Nodup) :
    ∃ mu2, R mu2 (H.blks ++ bl) w ∧ Ext (ctx mu0 H.blks w0) (ctx mu2 (H.blks ++ bl) w) ∧ (∀ (p i : Nat), ex[p]? = some i → mu2[H.blks.length + Q i]? = mu[H.blks.length + p]?) ∧
      (∀ v u, Rep (ctx mu (H.blks ++ ex.map B) w) v u → v.closed H.blks.length = true → Rep (ctx mu2 (H.blks ++ bl) w) v u) := by
  have hP : ∀ (q : Nat), ∃ (p : Nat), q < bl.length → ∃ (i : Nat), ex[p]? = some i ∧ Q i = q := by
    intro q
    by_cases hq : q < bl.length
    · obtain ⟨i, hi, hqi⟩ := hsurj q hq
      obtain ⟨p, hp⟩ := List.mem_iff_getElem?.1 hi
      exact ⟨p, fun _ => ⟨i, hp, hqi⟩⟩
    · exact ⟨0, fun h => absurd h hq⟩
  let Pf : Nat → Nat := fun q => Classical.choose (hP q)
  have hPf : ∀ (q : Nat), q < bl.length → ∃ (i : Nat), ex[Pf q]? = some i ∧ Q i = q := fun q hq => Classical.choose_spec (hP q) hq
  have hlen0 := hR0.len
  have hlen := hR.len
  simp only [List.length_append, List.length_map] at hlen
  have hmu0 : ∀ i, i < H.blks.length → mu[i]? = mu0[i]? := by
    intro i hi
    have h1 : i < mu0.length := by omega
    have := hE.mu i _ (List.getElem?_eq_getElem h1)
    simp only [ctx] at this
    rw [this, List.getElem?_eq_getElem h1]
  let mu2 := mu0 ++ (List.range bl.length).map (fun q => mu.getD (H.blks.length + Pf q) 0)
  have hpl : ∀ q, q < bl.length → Pf q < ex.length := by
    intro q hq
    obtain ⟨i, h1, _⟩ := hPf q hq
    exact (List.getElem?_eq_some_iff.1 h1).1
  have m2a : ∀ i, i < H.blks.length → mu2[i]? = mu[i]? := by
    intro i hi
    rw [hmu0 i hi]
    exact List.getElem?_append_left (by omega)
  have m2b : ∀ q, q < bl.length → mu2[H.blks.length + q]? = mu[H.blks.length + Pf q]? := by
    intro q hq
    have hb : H.blks.length + Pf q < mu.length := by have := hpl q hq; omega
    show (mu0 ++ _)[H.blks.length + q]? = _
    rw [List.getElem?_append_right (by omega), show H.blks.length + q - mu0.length = q by omega, List.getElem?_map, List.getElem?_range hq]
    simp [List.getD, List.getElem?_eq_getElem hb]
  have b2a : ∀ i, i < H.blks.length → (H.blks ++ bl)[i]? = (H.blks ++ ex.map B)[i]? := by
    intro i hi
    rw [List.getElem?_append_left hi, List.getElem?_append_left hi]
  have b2b : ∀ q, q < bl.length → (H.blks ++ bl)[H.blks.length + q]? = (H.blks ++ ex.map B)[H.blks.length + Pf q]? := by
    intro q hq
    obtain ⟨i, h1, h2⟩ := hPf q hq
    rw [List.getElem?_append_right (by omega), List.getElem?_append_right (by omega), show H.blks.length + q - H.blks.length = q by omega, show H.blks.length + Pf q - H.blks.length = Pf q by omega, List.getElem?_map, h1, ← h2, hQ i (List.mem_of_getElem? h1)]
    rfl
  have hpi : ∃ pi : Nat → Nat, (∀ i b, (H.blks ++ bl)[i]? = some b → (H.blks ++ ex.map B)[pi i]? = some b ∧ mu2[i]? = mu[pi i]? ∧ b.closed H.blks.length = true) ∧ (∀ i j, i < (H.blks ++ bl).length → j < (H.blks ++ bl).length → pi i = pi j → i = j) := by
    refine ⟨fun i => if i < H.blks.length then i else H.blks.length + Pf (i - H.blks.length), fun i b hb => ?_, fun i j hi hj hij => ?_⟩
    · by_cases hi : i < H.blks.length
      · simp only [hi, if_true]
        refine ⟨by rw [← b2a i hi]; exact hb, m2a i hi, ?_⟩
        rw [List.getElem?_append_left hi] at hb
        have h1 : i < mu0.length := by omega
        have := (hR0.ok i _ b hb (List.getElem?_eq_getElem h1)).closed
        simp only [ctx, hlen0] at this
        exact this
      · simp only [hi, if_false]
        have hlt := (List.getElem?_eq_some_iff.1 hb).1
        simp only [List.length_append] at hlt
        have hq : i - H.blks.length < bl.length := by omega
        have e1 := b2b _ hq
        have e2 := m2b _ hq
        rw [show H.blks.length + (i - H.blks.length) = i by omega] at e1 e2
        refine ⟨by rw [← e1]; exact hb, e2, ?_⟩
        obtain ⟨i', h1, h2⟩ := hPf _ hq
        have hmem := List.mem_of_getElem? h1
        rw [List.getElem?_append_right (by omega), ← h2, hQ i' hmem] at hb
        cases hb
        exact hcl i' hmem
    · simp only [List.length_append] at hi hj
      simp only at hij
      split at hij
      · split at hij
        · exact hij
        · omega
      · split at hij
        · omega
        · have hqi : i - H.blks.length < bl.length := by omega
          have hqj : j - H.blks.length < bl.length := by omega
          obtain ⟨i1, a1, a2⟩ := hPf _ hqi
          obtain ⟨j1, c1, c2⟩ := hPf _ hqj
          rw [show Pf (i - H.blks.length) = Pf (j - H.blks.length) by omega] at a1
          rw [a1] at c1
          cases c1
          omega
  obtain ⟨pi, hp1, hp2⟩ := hpi
  have hown : ∀ {k off : Nat}, Owned mu2 (H.blks ++ bl) k off → Owned mu (H.blks ++ ex.map B) k off := by
    rintro k off ⟨i, b, h1, h2, h3⟩
    obtain ⟨q1, q2, _⟩ := hp1 i b h1
    exact ⟨pi i, b, q1, by rw [← q2]; exact h2, h3⟩
  have hcut : ∀ (i k : Nat), i < H.blks.length → (ctx mu (H.blks ++ ex.map B) w).mu[i]? = some k → (ctx mu2 (H.blks ++ bl) w).mu[i]? = some k := by
    intro i k hi hk
    simp only [ctx] at hk ⊢
    rw [m2a i hi]
    exact hk
  refine ⟨mu2, ⟨by simp [mu2, hlen0], ?_, ?_⟩, ?_, fun p i hpi' => ?_, fun v u hr hc => Rep.cut (C := ctx mu (H.blks ++ ex.map B) w) (C' := ctx mu2 (H.blks ++ bl) w) (n := H.blks.length) hcut rfl (fun _ _ ho => hown ho) v u hr hc⟩
  · intro i j k a b h1 h2 la lb h3 h4
    obtain ⟨q1, q2, _⟩ := hp1 i a h1
    obtain ⟨s1, s2, _⟩ := hp1 j b h2
    have := hR.inj (pi i) (pi j) k a b q1 s1 la lb (by rw [← q2]; exact h3) (by rw [← s2]; exact h4)
    exact hp2 i j (List.getElem?_eq_some_iff.1 h1).1 (List.getElem?_eq_some_iff.1 h2).1 this
  · intro i k b h1 h2
    obtain ⟨q1, q2, q3⟩ := hp1 i b h1
    exact BlkOk.cut (C := ctx mu (H.blks ++ ex.map B) w) (C' := ctx mu2 (H.blks ++ bl) w) (n := H.blks.length) hcut rfl (fun _ _ ho => hown ho) (hR.ok (pi i) k b q1 (by rw [← q2]; exact h2)) q3
  · refine ⟨fun i k h => ?_, hE.size, fun k off u hc hm => let ⟨a, b⟩ := hE.cell k off u hc hm; ⟨a, fun ho => b (hown ho)⟩, hE.shape, fun k hk hm => let ⟨a, b⟩ := hE.block k hk hm; ⟨a, fun off ho => b off (hown ho)⟩, hE.os, hE.tape, hE.output⟩
    simp only [ctx] at h ⊢
    have hi := (List.getElem?_eq_some_iff.1 h).1
    show (mu0 ++ _)[i]? = _
    rw [List.getElem?_append_left hi]
    exact h
  · have hmem := List.mem_of_getElem? hpi'
    have hq : Q i < bl.length := (List.getElem?_eq_some_iff.1 (hQ i hmem)).1
    obtain ⟨i', a1, a2⟩ := hPf _ hq
    have : i' = i := hinj i' i (List.mem_of_getElem? a1) hmem a2
    subst this
    rw [m2b _ hq]
    have hpe : Pf (Q i') = p := by
      have l1 := (List.getElem?_eq_some_iff.1 a1)
      have l2 := (List.getElem?_eq_some_iff.1 hpi')
      obtain ⟨l1a, l1b⟩ := l1
      obtain ⟨l2a, l2b⟩ := l2
      exact (List.getElem_inj hnd).1 (l1b.trans l2b.symm)
    rw [hpe]

end
end Go.Ev
