/- The operations that ask nothing of memory that may be written: what the evaluator says is what the model does.
   Conditions: none; plain lemmas. -/
import Derived.Test.YtlliieplgdlldaaEvC
namespace Go.Ev

def ev1 (tmps : Array Value) : Operand → Value
  | .tmp t => tmps.getD t undef
  | .const v => v
  | .global g => .pointer (some ⟨g, 0, none⟩)
  | .func f => .func (.func f) #[] #[]

def Yields (P : Program) (s : Sem Next) (w : World) (u : Value) (w' : World) : Prop :=
  s.run P w = .ok (.value u) w' ∨ (s.run P w = .ok .skip w' ∧ u = undef)

structure RelT (C : Ctx) (T : Tm) (tmps : Array Value) : Prop where
  get : ∀ (t : Nat) (v : V), T.get t = some v → ∃ u, tmps[t]? = some u ∧ Rep C v u

structure Grows (w w' : World) : Prop where
  size : w.heap.size ≤ w'.heap.size
  block : ∀ (k : Nat), k < w.heap.size → w'.heap[k]? = w.heap[k]?
  os : w'.os = w.os
  tape : w'.tape = w.tape
  output : w'.output = w.output

theorem Grows.refl (w : World) : Grows w w := ⟨Nat.le_refl _, fun _ _ => rfl, rfl, rfl, rfl⟩
theorem Grows.trans {a b c : World} (h : Grows a b) (h' : Grows b c) : Grows a c :=
  ⟨Nat.le_trans h.size h'.size, fun k hk => (h'.block k (Nat.lt_of_lt_of_le hk h.size)).trans (h.block k hk), h'.os.trans h.os, h'.tape.trans h.tape, h'.output.trans h.output⟩
theorem Grows.push (w : World) (o : Obj) : Grows w { w with heap := w.heap.push o } :=
  ⟨by simp, fun k hk => by simp [Array.getElem?_push, Nat.ne_of_lt hk], rfl, rfl, rfl⟩
theorem Grows.drew (w : World) : Grows w { w with drawn := w.drawn + 1 } := ⟨Nat.le_refl _, fun _ _ => rfl, rfl, rfl, rfl⟩

theorem cell_of_block {w w' : World} {k off : Nat} (h : w'.heap[k]? = w.heap[k]?) : w'.cell? ⟨k, off, none⟩ = w.cell? ⟨k, off, none⟩ := by
  unfold World.cell?
  simp only [h]
theorem shape_of_block {w w' : World} {k : Nat} (h : w'.heap[k]? = w.heap[k]?) : w'.shape? k = w.shape? k := by
  unfold World.shape?
  simp only [h]

theorem Grows.ext {mu : List Nat} {bs : List ABlk} {w w' : World} (h : Grows w w') : Ext (ctx mu bs w) (ctx mu bs w') :=
  ⟨fun _ _ h => h, h.size, fun k off u hc hm => ⟨(cell_of_block (h.block k (cell_lt hc))).trans hc, hm⟩,
   fun k hk => shape_of_block (h.block k hk), fun k hk hm => ⟨h.block k hk, hm⟩, h.os, h.tape, h.output⟩

theorem Grows.R {mu : List Nat} {bs : List ABlk} {w w' : World} (h : Grows w w') (hR : R mu bs w) : R mu bs w' :=
  ⟨hR.len, hR.inj, fun i k b hb hk => by
    by_cases hl : b.live = true
    · exact (hR.ok i k b hb hk).mono h.ext (h.block k ((hR.ok i k b hb hk).lt hl))
    · cases b <;> simp_all [ABlk.live, BlkOk]⟩

theorem RelT.mono {C C' : Ctx} (h : Ext C C') {T : Tm} {tmps : Array Value} (hT : RelT C T tmps) : RelT C' T tmps :=
  ⟨fun t v hv => let ⟨u, h1, h2⟩ := hT.get t v hv; ⟨u, h1, Rep.mono h _ _ h2⟩⟩

theorem ev_spec {C : Ctx} {T : Tm} {tmps : Array Value} (hT : RelT C T tmps) {x : Opd} {y : Operand} {v : V} (h : x.ev T = some v) (hf : fitX x y = true) : Rep C v (ev1 tmps y) := by
  cases x with
  | t n =>
    cases y <;> simp [fitX] at hf
    subst hf
    obtain ⟨u, h1, h2⟩ := hT.get n v h
    simpa [ev1, Array.getD, h1] using (by
      have : tmps.getD n undef = u := by simp [Array.getD_eq_getD_getElem?, h1]
      rw [this]; exact h2 : Rep C v (tmps.getD n undef))
  | c v' =>
    cases y <;> simp [fitX] at hf
    simp only [Opd.ev, Option.some.injEq] at h
    subst h
    exact fitV_spec C _ _ hf
  | f n =>
    cases y <;> simp [fitX] at hf
    subst hf
    simp only [Opd.ev, Option.some.injEq] at h
    subst h
    simp only [ev1, Rep]
    exact ⟨#[], #[], rfl, by simp [Reps], by simp [Reps]⟩

theorem evs_spec {C : Ctx} {T : Tm} {tmps : Array Value} (hT : RelT C T tmps) : ∀ {xs : List Opd} {ys : List Operand} {vs : List V}, evs T xs = some vs → fitXs xs ys = true → Reps C vs (ys.map (ev1 tmps))
  | [], [], vs, h, _ => by simp only [evs, Option.some.injEq] at h; subst h; simp [Reps]
  | x :: xs, y :: ys, vs, h, hf => by
    simp only [fitXs, Bool.and_eq_true] at hf
    simp only [evs] at h
    split at h
    · rename_i v hv
      split at h
      · rename_i vs' hvs
        simp only [Option.some.injEq] at h
        subst h
        simp only [List.map_cons, Reps]
        exact ⟨_, _, rfl, ev_spec hT hv hf.1, evs_spec hT hvs hf.2⟩
      · simp at h
    · simp at h
  | [], _ :: _, _, _, hf => by simp [fitXs] at hf
  | _ :: _, [], _, _, hf => by simp [fitXs] at hf

theorem Rep.cells {C : Ctx} {v : V} {u : Value} (h : Rep C v u) : Reps C v.cells u.cells.toList := by
  cases v with
  | agg cs =>
    simp only [Rep] at h
    obtain ⟨us, rfl, h1, _⟩ := h
    exact h1
  | lit l =>
    simp only [Rep] at h
    obtain ⟨h1, rfl⟩ := h
    have : (u.cells.toList) = [u] := by cases u <;> simp_all [Value.cells, inert]
    rw [this]
    simp only [V.cells, Reps, Rep]
    exact ⟨u, [], rfl, ⟨h1, rfl⟩, rfl⟩
  | tup vs =>
    have h' := h
    simp only [Rep] at h
    obtain ⟨us, rfl, _⟩ := h
    simp only [V.cells, Value.cells, Reps]
    exact ⟨_, _, rfl, h', rfl⟩
  | fn f a b =>
    have h' := h
    simp only [Rep] at h
    obtain ⟨_, _, rfl, _⟩ := h
    simp only [V.cells, Value.cells, Reps]
    exact ⟨_, _, rfl, h', rfl⟩
  | imm cs =>
    have h' := h
    simp only [Rep] at h
    obtain ⟨_, _, rfl, _⟩ := h
    simp only [V.cells, Value.cells, Reps]
    exact ⟨_, _, rfl, h', rfl⟩
  | ref b off =>
    have h' := h
    simp only [Rep] at h
    obtain ⟨_, _, rfl⟩ := h
    simp only [V.cells, Value.cells, Reps]
    exact ⟨_, _, rfl, h', rfl⟩
  | sl cs n o =>
    have h' := h
    simp only [Rep] at h
    obtain ⟨_, _, rfl, _⟩ := h
    simp only [V.cells, Value.cells, Reps]
    exact ⟨_, _, rfl, h', rfl⟩
  | msl b off n q o =>
    have h' := h
    simp only [Rep] at h
    obtain ⟨_, _, _, rfl, _⟩ := h
    simp only [V.cells, Value.cells, Reps]
    exact ⟨_, _, rfl, h', rfl⟩
  | map b =>
    have h' := h
    simp only [Rep] at h
    obtain ⟨_, _, rfl⟩ := h
    simp only [V.cells, Value.cells, Reps]
    exact ⟨_, _, rfl, h', rfl⟩
  | iface t x =>
    have h' := h
    simp only [Rep] at h
    obtain ⟨_, rfl, _⟩ := h
    simp only [V.cells, Value.cells, Reps]
    exact ⟨_, _, rfl, h', rfl⟩

theorem Rep.cellsAll {C : Ctx} {v : V} {u : Value} (h : Rep C v u) (hb : boxable v = true) : v.cells.all V.isCell = true := by
  cases v with
  | agg cs =>
    simp only [Rep] at h
    obtain ⟨us, _, _, h2⟩ := h
    exact h2
  | tup vs => simp [boxable] at hb
  | _ => simp [V.cells, V.isCell]

theorem Rep.one {C : Ctx} {v : V} {u : Value} (h : Rep C v u) (hc : v.isCell = true) : u.oneCell' = true := by
  cases v with
  | agg cs => simp [V.isCell] at hc
  | tup vs => simp [V.isCell] at hc
  | lit l =>
    simp only [Rep] at h
    obtain ⟨h1, rfl⟩ := h
    cases u <;> simp_all [inert, Value.oneCell']
  | fn f a b => simp only [Rep] at h; obtain ⟨_, _, rfl, _⟩ := h; rfl
  | imm cs => simp only [Rep] at h; obtain ⟨_, _, rfl, _⟩ := h; rfl
  | ref b off => simp only [Rep] at h; obtain ⟨_, _, rfl⟩ := h; rfl
  | sl cs n o => simp only [Rep] at h; obtain ⟨_, _, rfl, _⟩ := h; rfl
  | msl b off n q o => simp only [Rep] at h; obtain ⟨_, _, _, rfl, _⟩ := h; rfl
  | map b => simp only [Rep] at h; obtain ⟨_, _, rfl⟩ := h; rfl
  | iface t x => simp only [Rep] at h; obtain ⟨_, rfl, _⟩ := h; rfl

theorem Rep.strip1 {C : Ctx} {v : V} {u : Value} (h : Rep C v u) : Rep C v.strip1 u := by
  cases v with
  | sl cs n o =>
    simp only [Rep, V.strip1] at h ⊢
    obtain ⟨k, off, cap, h1, h2, h3, _⟩ := h
    exact ⟨k, off, cap, h1, h2, h3, trivial⟩
  | _ => simpa [V.strip1] using h

theorem Reps.strip1 {C : Ctx} : ∀ {vs : List V} {us : List Value}, Reps C vs us → Reps C (vs.map V.strip1) us
  | [], us, h => by simpa [Reps] using h
  | v :: vs, us, h => by
    simp only [Reps, List.map_cons] at h ⊢
    obtain ⟨u, us', e, h1, h2⟩ := h
    exact ⟨u, us', e, h1.strip1, Reps.strip1 h2⟩

theorem isCell_strip1 (v : V) : v.strip1.isCell = v.isCell := by cases v <;> rfl
theorem all_strip1 (cs : List V) : (cs.map V.strip1).all V.isCell = cs.all V.isCell := by
  rw [List.all_map]
  congr 1
  funext v
  exact isCell_strip1 v

theorem Rep.strip2 {C : Ctx} {v : V} {u : Value} (h : Rep C v u) : Rep C v.strip2 u := by
  cases v with
  | agg cs =>
    simp only [V.strip2, Rep] at h ⊢
    obtain ⟨us, h1, h2, h3⟩ := h
    exact ⟨us, h1, h2.strip1, by rw [all_strip1]; exact h3⟩
  | _ => exact Rep.strip1 h

theorem Reps.strip2 {C : Ctx} : ∀ {vs : List V} {us : List Value}, Reps C vs us → Reps C (vs.map V.strip2) us
  | [], us, h => by simpa [Reps] using h
  | v :: vs, us, h => by
    simp only [Reps, List.map_cons] at h ⊢
    obtain ⟨u, us', e, h1, h2⟩ := h
    exact ⟨u, us', e, h1.strip2, Reps.strip2 h2⟩

theorem Rep.strip {C : Ctx} {v : V} {u : Value} (h : Rep C v u) : Rep C v.strip u := by
  cases v with
  | tup vs =>
    simp only [V.strip, Rep] at h ⊢
    obtain ⟨us, h1, h2⟩ := h
    exact ⟨us, h1, h2.strip2⟩
  | _ => exact Rep.strip2 h

theorem boxable_strip2 (v : V) : boxable v.strip2 = boxable v := by cases v <;> rfl

section
variable {P : Program}
theorem run_size {t n : Nat} (h : szOf P t = some n) (w : World) : (sizeOf t).run P w = .ok n w := by
  unfold szOf at h
  cases hi : P.info? t with
  | none => simp [hi] at h
  | some i =>
    simp only [hi, Option.map_some, Option.some.injEq] at h
    simp [sizeOf, typeInfo, hi, h]

theorem run_agg {t : Nat} {n : Option Nat} (h : aggOf P t = some n) (w : World) : (isAgg t).run P w = .ok n.isSome w := by
  unfold aggOf at h
  cases hu : P.underlying t with
  | none => simp [hu] at h
  | some d =>
    simp only [hu] at h
    cases d <;> simp [isAgg, run_underlying hu] at h ⊢ <;>
      first
        | (subst h; rfl)
        | (obtain ⟨k, _, rfl⟩ := h; rfl)

theorem agg_size {t k : Nat} (h : aggOf P t = some (some k)) : szOf P t = some k := by
  unfold aggOf at h
  cases hu : P.underlying t with
  | none => simp [hu] at h
  | some d =>
    simp only [hu] at h
    cases d <;> simp at h <;> exact h

theorem run_part {C : Ctx} {t : Nat} {n : Option Nat} (h : aggOf P t = some n) {cs : List V} {us : Array Value} (hr : Reps C cs us.toList) (ha : cs.all V.isCell = true) {off : Nat} {v : V} (hv : partV cs off n = some v) (w : World) :
    ∃ u, (part t us off).run P w = .ok u w ∧ Rep C v u := by
  have hlen := hr.length
  cases n with
  | none =>
    simp only [partV] at hv
    obtain ⟨u, hu, hr'⟩ := Reps.get off v hr hv
    have hu' : us[off]? = some u := by simpa using hu
    exact ⟨u, by simp [part, run_agg h, hu'], hr'⟩
  | some k =>
    simp only [partV] at hv
    split at hv
    · rename_i hk
      simp only [Option.some.injEq] at hv
      subst hv
      refine ⟨.agg (us.extract off (off + k)), by simp [part, run_agg h, run_size (agg_size h)], ?_⟩
      simp only [Rep]
      refine ⟨_, rfl, ?_, ?_⟩
      · have := (hr.drop off).take k
        simpa [Array.toList_extract, List.extract] using this
      · rw [List.all_eq_true] at ha ⊢
        exact fun x hx => ha x (List.mem_of_mem_drop (List.mem_of_mem_take hx))
    · simp at hv

theorem add_none (k off n : Nat) : (⟨k, off, none⟩ : Addr).add n = ⟨k, off + n, none⟩ := by
  unfold Addr.add
  split <;> simp_all

theorem cells_run {C : Ctx} {k : Nat} : ∀ {off : Nat} {cs : List V}, RepAt C k off cs → ∃ us : List Value, Reps C cs us ∧ ∀ (j : Nat) (v : Value), us[j]? = some v → C.w.cell? ⟨k, off + j, none⟩ = some v
  | _, [], _ => ⟨[], by simp [Reps], by simp⟩
  | off, c :: cs, h => by
    simp only [RepAt] at h
    obtain ⟨⟨u, h1, h2, h3, h4⟩, h5⟩ := h
    obtain ⟨us, h6, h7⟩ := cells_run h5
    refine ⟨u :: us, by simp only [Reps]; exact ⟨u, us, rfl, h3, h6⟩, fun j v hv => ?_⟩
    cases j with
    | zero => simp at hv; subst hv; exact h1
    | succ j =>
      simp at hv
      rw [show off + (j + 1) = off + 1 + j from by omega]
      exact h7 j v hv

theorem run_loadVar {mu : List Nat} {bs : List ABlk} {w : World} {t : Nat} {n : Option Nat} (h : aggOf P t = some n) {k off : Nat} {cs : List V} (hr : RepAt (ctx mu bs w) k off cs) {v : V} (hv : partV cs 0 n = some v) :
    ∃ u, (loadVar t ⟨k, off, none⟩).run P w = .ok u w ∧ Rep (ctx mu bs w) v u := by
  cases n with
  | none =>
    simp only [partV] at hv
    obtain ⟨u, h1, h2, h3, h4⟩ := hr.get 0 v hv
    have h1' : w.cell? ⟨k, off, none⟩ = some u := h1
    exact ⟨u, by simp [loadVar, run_agg h, h1'], h3⟩
  | some m =>
    simp only [partV] at hv
    split at hv
    · rename_i hk
      simp only [Option.some.injEq, Nat.zero_add, List.drop_zero] at hv
      subst hv
      have hall := hr.all
      obtain ⟨us, h1, h2⟩ := cells_run (hr.take m)
      have hl : us.length = m := by rw [h1.length]; simp; omega
      have := run_loadCells_list (P := P) w ⟨k, off, none⟩ us (fun j u hu => by rw [add_none]; exact h2 j u hu)
      rw [hl] at this
      refine ⟨.agg us.toArray, by simp [loadVar, run_agg h, run_size (agg_size h), this], ?_⟩
      simp only [Rep]
      refine ⟨_, rfl, h1, ?_⟩
      rw [List.all_eq_true] at hall ⊢
      exact fun x hx => hall x (List.mem_of_mem_take hx)
    · simp at hv

end
end Go.Ev
