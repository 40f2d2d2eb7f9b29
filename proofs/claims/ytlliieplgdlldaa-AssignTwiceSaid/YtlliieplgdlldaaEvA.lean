/- The abstract values and the abstract heap of an evaluator for the model's programs, and when a world of the model reads as they say.
   Conditions: none; definitions and plain lemmas. -/
import Derived.Calls
namespace Go.Ev

/-- what is known of a slice's capacity: nothing, the exact number, or the token of a row that only this slice may grow. -/
inductive Own where
  | none
  | cap (c : Nat)
  | tok (t esz : Nat)

/-- abstract values: trees; slices and pointers to what is never written again carry the cells that they read. -/
inductive V where
  | lit (v : Value)
  | fn (f : FuncId) (first caps : List V)
  | imm (cs : List V)
  | ref (b off : Nat)
  | sl (cs : List V) (len : Nat) (own : Own)
  | msl (b off len esz : Nat) (cap : Option Nat)
  | map (b : Nat)
  | iface (t : TypeId) (v : V)
  | agg (cs : List V)
  | tup (vs : List V)
deriving Inhabited

def V.isCell : V → Bool
  | .agg _ | .tup _ => false
  | _ => true

def V.cells : V → List V
  | .agg cs => cs
  | v => [v]

def inert : Value → Bool
  | .bool _ | .int .. | .float .. | .complex .. | .string _ | .nilFunc | .nilIface => true
  | .pointer .none | .map .none | .chan .none => true
  | .slice .none 0 0 => true
  | _ => false

inductive ABlk where
  | dead
  | cells (cs : List V)
  | row (n : Nat)
  | map (es : List (V × V))
deriving Inhabited

structure Ctx where
  mu : List Nat
  mt : Nat → Nat → Prop
  w : World

def OwnOk (C : Ctx) (n : Nat) (a : Addr) (len cap : Nat) : Own → Prop
  | .none => True
  | .cap c => cap = c
  | .tok t esz => a = ⟨a.block, 0, none⟩ ∧ C.mu[t]? = some a.block ∧ n = len * esz ∧ ∃ e m, C.w.shape? a.block = some (e, m) ∧ cap * esz ≤ m

mutual
def Rep (C : Ctx) : V → Value → Prop
  | .lit v, u => inert v = true ∧ u = v
  | .fn f fs cs, u => ∃ a b : Array Value, u = .func (.func f) a b ∧ Reps C fs a.toList ∧ Reps C cs b.toList
  | .imm cs, u => ∃ k off, u = .pointer (some ⟨k, off, none⟩) ∧ RepAt C k off cs
  | .ref b off, u => ∃ k, C.mu[b]? = some k ∧ u = .pointer (some ⟨k, off, none⟩)
  | .sl cs len own, u => ∃ (a : Addr) (cap : Nat), u = .slice (some a) len cap ∧ (len = 0 ∨ a.spot = none) ∧ len ≤ cap ∧ RepAt C a.block a.off cs ∧ OwnOk C cs.length a len cap own
  | .msl b off len esz cap, u => ∃ k cap', C.mu[b]? = some k ∧ u = .slice (some ⟨k, off, none⟩) len cap' ∧ len ≤ cap' ∧ (∀ c, cap = some c → cap' = c) ∧ ∃ e m, C.w.shape? k = some (e, m) ∧ off + cap' * esz ≤ m
  | .map b, u => ∃ k, C.mu[b]? = some k ∧ u = .map (some k)
  | .iface t v, u => ∃ x, u = .iface t x ∧ Rep C v x
  | .agg cs, u => ∃ us : Array Value, u = .agg us ∧ Reps C cs us.toList ∧ cs.all V.isCell = true
  | .tup vs, u => ∃ us : Array Value, u = .tuple us ∧ Reps C vs us.toList
def RepAt (C : Ctx) (k : Nat) : Nat → List V → Prop
  | _, [] => True
  | off, v :: vs => (∃ u, C.w.cell? ⟨k, off, none⟩ = some u ∧ ¬ C.mt k off ∧ Rep C v u ∧ v.isCell = true) ∧ RepAt C k (off + 1) vs
def Reps (C : Ctx) : List V → List Value → Prop
  | [], us => us = []
  | v :: vs, us => ∃ u us', us = u :: us' ∧ Rep C v u ∧ Reps C vs us'
end

structure Ext (C C' : Ctx) : Prop where
  mu : ∀ (i k : Nat), C.mu[i]? = some k → C'.mu[i]? = some k
  size : C.w.heap.size ≤ C'.w.heap.size
  cell : ∀ k off u, C.w.cell? ⟨k, off, none⟩ = some u → ¬ C.mt k off → C'.w.cell? ⟨k, off, none⟩ = some u ∧ ¬ C'.mt k off
  shape : ∀ (k : Nat), k < C.w.heap.size → C'.w.shape? k = C.w.shape? k
  block : ∀ (k : Nat), k < C.w.heap.size → (∀ off, ¬ C.mt k off) → C'.w.heap[k]? = C.w.heap[k]? ∧ ∀ off, ¬ C'.mt k off
  os : C'.w.os = C.w.os
  tape : C'.w.tape = C.w.tape
  output : C'.w.output = C.w.output

theorem Ext.refl (C : Ctx) : Ext C C := ⟨fun _ _ h => h, Nat.le_refl _, fun _ _ _ h h' => ⟨h, h'⟩, fun _ _ => rfl, fun _ _ h => ⟨rfl, h⟩, rfl, rfl, rfl⟩

theorem Ext.trans {A B C : Ctx} (h : Ext A B) (h' : Ext B C) : Ext A C :=
  ⟨fun i k hk => h'.mu i k (h.mu i k hk), Nat.le_trans h.size h'.size,
   fun k off u hc hm => let ⟨a, b⟩ := h.cell k off u hc hm; h'.cell k off u a b,
   fun k hk => (h'.shape k (Nat.lt_of_lt_of_le hk h.size)).trans (h.shape k hk),
   fun k hk hm => let ⟨a, b⟩ := h.block k hk hm; let ⟨c, d⟩ := h'.block k (Nat.lt_of_lt_of_le hk h.size) b; ⟨c.trans a, d⟩,
   h'.os.trans h.os, h'.tape.trans h.tape, h'.output.trans h.output⟩

theorem shape_lt {w : World} {k : Nat} {x : TypeId × Nat} (h : w.shape? k = some x) : k < w.heap.size := by
  unfold World.shape? at h
  rcases Nat.lt_or_ge k w.heap.size with hk | hk
  · exact hk
  · simp [Array.getElem?_eq_none hk] at h

theorem OwnOk.mono {C C' : Ctx} (h : Ext C C') {n : Nat} {a : Addr} {len cap : Nat} {o : Own} (ho : OwnOk C n a len cap o) : OwnOk C' n a len cap o := by
  cases o with
  | none => trivial
  | cap c => exact ho
  | tok t esz =>
    obtain ⟨h1, h2, h3, e, m, h4, h5⟩ := ho
    exact ⟨h1, h.mu _ _ h2, h3, e, m, by rw [h.shape _ (shape_lt h4)]; exact h4, h5⟩

mutual
theorem Rep.mono {C C' : Ctx} (h : Ext C C') : ∀ (v : V) (u : Value), Rep C v u → Rep C' v u
  | .lit v, u, hr => by simpa only [Rep] using hr
  | .fn f fs cs, u, hr => by
    simp only [Rep] at hr ⊢
    obtain ⟨a, b, e, h1, h2⟩ := hr
    exact ⟨a, b, e, Reps.mono h fs _ h1, Reps.mono h cs _ h2⟩
  | .imm cs, u, hr => by
    simp only [Rep] at hr ⊢
    obtain ⟨k, off, e, h1⟩ := hr
    exact ⟨k, off, e, RepAt.mono h k off cs h1⟩
  | .ref b off, u, hr => by
    simp only [Rep] at hr ⊢
    obtain ⟨k, e, h1⟩ := hr
    exact ⟨k, h.mu _ _ e, h1⟩
  | .sl cs len own, u, hr => by
    simp only [Rep] at hr ⊢
    obtain ⟨a, cap, e, h0, h1, h2, h3⟩ := hr
    exact ⟨a, cap, e, h0, h1, RepAt.mono h a.block a.off cs h2, h3.mono h⟩
  | .msl b off len esz cap, u, hr => by
    simp only [Rep] at hr ⊢
    obtain ⟨k, cap', e, h1, h2, h3, e', m, h4, h5⟩ := hr
    exact ⟨k, cap', h.mu _ _ e, h1, h2, h3, e', m, by rw [h.shape k (shape_lt h4)]; exact h4, h5⟩
  | .map b, u, hr => by
    simp only [Rep] at hr ⊢
    obtain ⟨k, e, h1⟩ := hr
    exact ⟨k, h.mu _ _ e, h1⟩
  | .iface t v, u, hr => by
    simp only [Rep] at hr ⊢
    obtain ⟨x, e, h1⟩ := hr
    exact ⟨x, e, Rep.mono h v x h1⟩
  | .agg cs, u, hr => by
    simp only [Rep] at hr ⊢
    obtain ⟨us, e, h1, h2⟩ := hr
    exact ⟨us, e, Reps.mono h cs _ h1, h2⟩
  | .tup vs, u, hr => by
    simp only [Rep] at hr ⊢
    obtain ⟨us, e, h1⟩ := hr
    exact ⟨us, e, Reps.mono h vs _ h1⟩
theorem RepAt.mono {C C' : Ctx} (h : Ext C C') (k : Nat) : ∀ (off : Nat) (vs : List V), RepAt C k off vs → RepAt C' k off vs
  | _, [], _ => by simp only [RepAt]
  | off, v :: vs, hr => by
    simp only [RepAt] at hr ⊢
    obtain ⟨⟨u, h1, h2, h3, h4⟩, h5⟩ := hr
    obtain ⟨h6, h7⟩ := h.cell k off u h1 h2
    exact ⟨⟨u, h6, h7, Rep.mono h v u h3, h4⟩, RepAt.mono h k (off + 1) vs h5⟩
theorem Reps.mono {C C' : Ctx} (h : Ext C C') : ∀ (vs : List V) (us : List Value), Reps C vs us → Reps C' vs us
  | [], us, hr => by simpa only [Reps] using hr
  | v :: vs, us, hr => by
    simp only [Reps] at hr ⊢
    obtain ⟨u, us', e, h1, h2⟩ := hr
    exact ⟨u, us', e, Rep.mono h v u h1, Reps.mono h vs us' h2⟩
end

def Reps2 (C : Ctx) : List (V × V) → List MapEntry → Prop
  | [], us => us = []
  | v :: vs, us => ∃ u us', us = u :: us' ∧ Rep C v.1 u.key ∧ Rep C v.2 u.val ∧ Reps2 C vs us'

theorem Reps2.mono {C C' : Ctx} (h : Ext C C') : ∀ (vs : List (V × V)) (us : List MapEntry), Reps2 C vs us → Reps2 C' vs us
  | [], us, hr => by simpa only [Reps2] using hr
  | v :: vs, us, hr => by
    simp only [Reps2] at hr ⊢
    obtain ⟨u, us', e, h1, h2, h3⟩ := hr
    exact ⟨u, us', e, Rep.mono h _ _ h1, Rep.mono h _ _ h2, Reps2.mono h vs us' h3⟩

/-- an abstract block and the model's block k of the world -/
def BlkOk (C : Ctx) (k : Nat) : ABlk → Prop
  | .dead => True
  | .cells cs => ∃ arr e fz, C.w.heap[k]? = some (.cells arr e fz) ∧ fz.2 = 0 ∧ cs.length ≤ arr.size ∧ Reps C cs (arr.toList.take cs.length) ∧ cs.all V.isCell = true
  | .row n => ∃ arr e fz, C.w.heap[k]? = some (.cells arr e fz) ∧ n ≤ arr.size ∧ fz.2 ≤ n
  | .map es => ∃ arr clock, C.w.heap[k]? = some (.map arr clock) ∧ Reps2 C es arr.toList

def ABlk.live : ABlk → Bool
  | .dead => false
  | _ => true

def ABlk.owns : ABlk → Nat → Prop
  | .dead, _ => False
  | .cells _, _ => True
  | .row n, off => n ≤ off
  | .map _, _ => True

def Owned (mu : List Nat) (bs : List ABlk) (k off : Nat) : Prop := ∃ (i : Nat) (b : ABlk), bs[i]? = some b ∧ mu[i]? = some k ∧ b.owns off

structure Heap where
  blks : List ABlk
  wr : List Nat

def ctx (mu : List Nat) (bs : List ABlk) (w : World) : Ctx := ⟨mu, Owned mu bs, w⟩

structure R (mu : List Nat) (bs : List ABlk) (w : World) : Prop where
  len : mu.length = bs.length
  inj : ∀ (i j k : Nat) (a b : ABlk), bs[i]? = some a → bs[j]? = some b → a.live = true → b.live = true → mu[i]? = some k → mu[j]? = some k → i = j
  ok : ∀ (i k : Nat) (b : ABlk), bs[i]? = some b → mu[i]? = some k → BlkOk (ctx mu bs w) k b

theorem BlkOk.lt {C : Ctx} {k : Nat} {b : ABlk} (h : BlkOk C k b) (hl : b.live = true) : k < C.w.heap.size := by
  have key : ∀ x, C.w.heap[k]? = some x → k < C.w.heap.size := fun x hx => (Array.getElem?_eq_some_iff.1 hx).1
  cases b with
  | dead => simp [ABlk.live] at hl
  | cells cs => obtain ⟨_, _, _, h, _⟩ := h; exact key _ h
  | row n => obtain ⟨_, _, _, h, _⟩ := h; exact key _ h
  | map es => obtain ⟨_, _, h, _⟩ := h; exact key _ h

theorem ABlk.owns_live {b : ABlk} {off : Nat} (h : b.owns off) : b.live = true := by cases b <;> simp_all [ABlk.owns, ABlk.live]

theorem R.owned_lt {mu : List Nat} {bs : List ABlk} {w : World} (h : R mu bs w) {k off : Nat} (ho : Owned mu bs k off) : k < w.heap.size := by
  obtain ⟨i, b, hb, hk, hw⟩ := ho
  exact (h.ok i k b hb hk).lt (ABlk.owns_live hw)

theorem BlkOk.mono {C C' : Ctx} (h : Ext C C') {k : Nat} {b : ABlk} (hk : C'.w.heap[k]? = C.w.heap[k]?) (hb : BlkOk C k b) : BlkOk C' k b := by
  cases b with
  | dead => trivial
  | cells cs =>
    obtain ⟨arr, e, fz, h1, h2, h3, h4, h5⟩ := hb
    exact ⟨arr, e, fz, hk.trans h1, h2, h3, Reps.mono h _ _ h4, h5⟩
  | row n =>
    obtain ⟨arr, e, fz, h1, h2, h3⟩ := hb
    exact ⟨arr, e, fz, hk.trans h1, h2, h3⟩
  | map es =>
    obtain ⟨arr, c, h1, h2⟩ := hb
    exact ⟨arr, c, hk.trans h1, Reps2.mono h _ _ h2⟩

/-! ### lists -/
theorem Reps.length {C : Ctx} : ∀ {vs : List V} {us : List Value}, Reps C vs us → us.length = vs.length
  | [], us, h => by simp only [Reps] at h; simp [h]
  | v :: vs, us, h => by
    simp only [Reps] at h
    obtain ⟨u, us', rfl, _, h2⟩ := h
    simp [Reps.length h2]

theorem Reps.get {C : Ctx} : ∀ {vs : List V} {us : List Value} (i : Nat) (v : V), Reps C vs us → vs[i]? = some v → ∃ u, us[i]? = some u ∧ Rep C v u
  | [], us, i, v, h, hv => by simp at hv
  | x :: vs, us, i, v, h, hv => by
    simp only [Reps] at h
    obtain ⟨u, us', rfl, h1, h2⟩ := h
    cases i with
    | zero => simp at hv; subst hv; exact ⟨u, by simp, h1⟩
    | succ i => simp at hv; simpa using Reps.get i v h2 hv

theorem Reps.of_get {C : Ctx} : ∀ {vs : List V} {us : List Value}, us.length = vs.length → (∀ (i : Nat) (v : V) (u : Value), vs[i]? = some v → us[i]? = some u → Rep C v u) → Reps C vs us
  | [], us, hl, _ => by simp only [Reps]; exact List.eq_nil_of_length_eq_zero (by simpa using hl)
  | x :: vs, [], hl, _ => by simp at hl
  | x :: vs, u :: us, hl, h => by
    simp only [Reps]
    exact ⟨u, us, rfl, h 0 x u (by simp) (by simp), Reps.of_get (by simpa using hl) fun i v u hv hu => h (i + 1) v u (by simpa using hv) (by simpa using hu)⟩

theorem Reps.append {C : Ctx} : ∀ {vs vs' : List V} {us us' : List Value}, Reps C vs us → Reps C vs' us' → Reps C (vs ++ vs') (us ++ us')
  | [], vs', us, us', h, h' => by simp only [Reps] at h; subst h; simpa using h'
  | v :: vs, vs', us, us', h, h' => by
    simp only [Reps] at h
    obtain ⟨u, us2, rfl, h1, h2⟩ := h
    simp only [List.cons_append, Reps]
    exact ⟨u, us2 ++ us', rfl, h1, Reps.append h2 h'⟩

theorem Reps.take {C : Ctx} {vs : List V} {us : List Value} (n : Nat) (h : Reps C vs us) : Reps C (vs.take n) (us.take n) :=
  Reps.of_get (by simp [h.length]) fun i v u hv hu => by
    rw [List.getElem?_take] at hv hu
    split at hv
    · rename_i hi
      simp only [hi, if_true] at hu
      obtain ⟨u', h1, h2⟩ := Reps.get i v h hv
      rw [h1] at hu
      cases hu
      exact h2
    · simp at hv

theorem Reps.drop {C : Ctx} {vs : List V} {us : List Value} (n : Nat) (h : Reps C vs us) : Reps C (vs.drop n) (us.drop n) :=
  Reps.of_get (by simp [h.length]) fun i v u hv hu => by
    rw [List.getElem?_drop] at hv hu
    obtain ⟨u', h1, h2⟩ := Reps.get _ v h hv
    rw [h1] at hu
    cases hu
    exact h2

theorem RepAt.get {C : Ctx} {k : Nat} : ∀ {off : Nat} {vs : List V} (i : Nat) (v : V), RepAt C k off vs → vs[i]? = some v → ∃ u, C.w.cell? ⟨k, off + i, none⟩ = some u ∧ ¬ C.mt k (off + i) ∧ Rep C v u ∧ v.isCell = true
  | off, [], i, v, h, hv => by simp at hv
  | off, x :: vs, i, v, h, hv => by
    simp only [RepAt] at h
    obtain ⟨h1, h2⟩ := h
    cases i with
    | zero => simp at hv; subst hv; simpa using h1
    | succ i =>
      simp at hv
      have := RepAt.get i v h2 hv
      rw [show off + 1 + i = off + (i + 1) from by omega] at this
      exact this

theorem RepAt.of_get {C : Ctx} {k : Nat} : ∀ {off : Nat} {vs : List V}, (∀ (i : Nat) (v : V), vs[i]? = some v → ∃ u, C.w.cell? ⟨k, off + i, none⟩ = some u ∧ ¬ C.mt k (off + i) ∧ Rep C v u ∧ v.isCell = true) → RepAt C k off vs
  | off, [], _ => by simp only [RepAt]
  | off, x :: vs, h => by
    simp only [RepAt]
    refine ⟨by simpa using h 0 x (by simp), RepAt.of_get fun i v hv => ?_⟩
    have := h (i + 1) v (by simpa using hv)
    rw [show off + (i + 1) = off + 1 + i from by omega] at this
    exact this

theorem RepAt.drop {C : Ctx} {k off : Nat} {vs : List V} (n : Nat) (h : RepAt C k off vs) : RepAt C k (off + n) (vs.drop n) :=
  RepAt.of_get fun i v hv => by
    rw [List.getElem?_drop] at hv
    have := RepAt.get _ v h hv
    rw [show off + (n + i) = off + n + i from by omega] at this
    exact this

theorem RepAt.take {C : Ctx} {k off : Nat} {vs : List V} (n : Nat) (h : RepAt C k off vs) : RepAt C k off (vs.take n) :=
  RepAt.of_get fun i v hv => by
    rw [List.getElem?_take] at hv
    split at hv
    · exact RepAt.get _ v h hv
    · simp at hv

theorem RepAt.append {C : Ctx} {k off : Nat} {vs vs' : List V} (h : RepAt C k off vs) (h' : RepAt C k (off + vs.length) vs') : RepAt C k off (vs ++ vs') :=
  RepAt.of_get fun i v hv => by
    rw [List.getElem?_append] at hv
    split at hv
    · exact RepAt.get _ v h hv
    · rename_i hi
      have := RepAt.get _ v h' hv
      rw [show off + vs.length + (i - vs.length) = off + i from by omega] at this
      exact this

theorem RepAt.all {C : Ctx} {k off : Nat} {vs : List V} (h : RepAt C k off vs) : vs.all V.isCell = true := by
  rw [List.all_eq_true]
  intro v hv
  obtain ⟨i, hi⟩ := List.mem_iff_getElem?.1 hv
  obtain ⟨_, _, _, _, h⟩ := RepAt.get i v h hi
  exact h

theorem cell_heap {w : World} {k off : Nat} {u : Value} (h : w.cell? ⟨k, off, none⟩ = some u) : ∃ arr e fz, w.heap[k]? = some (.cells arr e fz) ∧ arr[off]? = some u := by
  unfold World.cell? at h
  simp only at h
  split at h
  · rename_i c e fz hc
    exact ⟨c, e, fz, hc, by simpa using h⟩
  · simp at h

theorem cell_of_heap {w : World} {k off : Nat} {arr : Array Value} {e : TypeId} {fz : Nat × Nat} (h : w.heap[k]? = some (.cells arr e fz)) : w.cell? ⟨k, off, none⟩ = arr[off]? := by
  unfold World.cell?
  simp [h]

theorem cell_lt {w : World} {k off : Nat} {u : Value} (h : w.cell? ⟨k, off, none⟩ = some u) : k < w.heap.size := by
  obtain ⟨_, _, _, h, _⟩ := cell_heap h
  exact (Array.getElem?_eq_some_iff.1 h).1

end Go.Ev
