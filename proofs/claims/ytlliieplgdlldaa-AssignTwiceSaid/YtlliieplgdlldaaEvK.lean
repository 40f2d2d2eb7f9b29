/- The operations on memory that may be written, but for maps and append.
   Conditions: none; plain lemmas. -/
import Derived.Test.YtlliieplgdlldaaEvJ
namespace Go.Ev

structure Keeps (H H' : Heap) : Prop where
  len : H.blks.length ≤ H'.blks.length
  wr : ∀ (i : Nat), i ∈ H.wr → i ∈ H'.wr
  blk : ∀ (i : Nat), i < H.blks.length → i ∉ H'.wr → H'.blks[i]? = H.blks[i]?

theorem Keeps.refl (H : Heap) : Keeps H H := ⟨Nat.le_refl _, fun _ h => h, fun _ _ _ => rfl⟩
theorem Keeps.trans {A B C : Heap} (h : Keeps A B) (h' : Keeps B C) : Keeps A C :=
  ⟨Nat.le_trans h.len h'.len, fun i hi => h'.wr i (h.wr i hi), fun i hi hn => (h'.blk i (Nat.lt_of_lt_of_le hi h.len) hn).trans (h.blk i hi (fun hh => hn (h'.wr i hh)))⟩

theorem mem_insN {b i : Nat} {l : List Nat} : i ∈ insN b l ↔ i = b ∨ i ∈ l := by
  unfold insN
  split
  · rename_i h
    simp at h
    constructor
    · exact .inr
    · rintro (rfl | h') <;> assumption
  · simp

theorem Keeps.write (H : Heap) (b : Nat) (x : ABlk) : Keeps H (H.write b x) :=
  ⟨by simp [Heap.write], fun i hi => mem_insN.2 (.inr hi), fun i _ hn => by
    have : b ≠ i := fun e => hn (mem_insN.2 (.inl e.symm))
    simp [Heap.write, List.getElem?_set_ne this]⟩
theorem Keeps.push (H : Heap) (x : ABlk) : Keeps H (H.push x) :=
  ⟨by simp [Heap.push], fun i hi => hi, fun i hi _ => by simp [Heap.push, List.getElem?_append_left hi]⟩

section
variable {P : Program} {mu : List Nat} {H : Heap} {w : World} {T : Tm} {tmps : Array Value}

def OkH (P : Program) (mu : List Nat) (H : Heap) (tmps : Array Value) (w : World) (oper : Oper) (v : V) (oH : Option Heap) : Prop :=
  ∃ mu' u w', Yields P (execOp (ev1 tmps) oper) w u w' ∧ Ext (ctx mu H.blks w) (ctx mu' (oH.getD H).blks w') ∧ R mu' (oH.getD H).blks w' ∧ Rep (ctx mu' (oH.getD H).blks w') v u ∧ Keeps H (oH.getD H)

theorem shape_push (w : World) (arr : Array Value) (e : TypeId) : ({ w with heap := w.heap.push (.cells arr e) } : World).shape? w.heap.size = some (e, arr.size) := by
  simp only [World.shape?, Array.getElem?_push_size]

theorem wrap_small {n : Int} (h0 : 0 ≤ n) (h : n ≤ 140737488355328) : IntKind.i64.wrap n = n := by
  simp only [IntKind.wrap, IntKind.bits, IntKind.signed, Bool.true_and]
  have : n % (2 ^ 64 : Int) = n := Int.emod_eq_of_lt h0 (by omega)
  simp only [this]
  split
  · rename_i hh
    simp at hh
    omega
  · rfl

theorem pushCells {bs : List ABlk} {w0 : World} (hR : R mu bs w) (hg : Grows w w0) {cs : List V} {arr : Array Value} (h : Reps (ctx mu bs w) cs (arr.toList.take cs.length)) (hl : cs.length ≤ arr.size) (ha : cs.all V.isCell = true) (e : TypeId) :
    Ext (ctx mu bs w) (ctx (mu ++ [w0.heap.size]) (bs ++ [.cells cs]) { w0 with heap := w0.heap.push (.cells arr e) }) ∧ R (mu ++ [w0.heap.size]) (bs ++ [.cells cs]) { w0 with heap := w0.heap.push (.cells arr e) } := by
  have hg' := hg.trans (Grows.push w0 (.cells arr e))
  have hE := newExt hR hg' (k := w0.heap.size) hg.size (.cells cs)
  exact ⟨hE, newR hR hg' hg.size ⟨arr, e, (0, 0), Array.getElem?_push_size, rfl, hl, Reps.mono hE _ _ h, ha⟩⟩

/-- the operation makes one block, of which b is what is known, and which f says by its number -/
structure NewBlk (P : Program) (mu : List Nat) (bs : List ABlk) (w : World) (tmps : Array Value) (oper : Oper) (f : Nat → V) (b : ABlk) (u : Value) (obj : Obj) : Prop where
  run : (execOp (ev1 tmps) oper).run P w = .ok (.value u) { w with heap := w.heap.push obj }
  live : b.live = true
  rep : ∀ (C' : Ctx) (n : Nat), C'.mu[n]? = some w.heap.size → C'.w.heap[w.heap.size]? = some obj → Rep C' (f n) u
  ok : ∀ (C' : Ctx), Ext (ctx mu bs w) C' → C'.w.heap[w.heap.size]? = some obj → BlkOk C' w.heap.size b

theorem NewBlk.cells {bs : List ABlk} {o : Oper} {f : Nat → V} {u : Value} {cs : List V} {arr : Array Value} {e : TypeId} (hrun : (execOp (ev1 tmps) o).run P w = .ok (.value u) { w with heap := w.heap.push (.cells arr e) })
    (hrep : ∀ (C' : Ctx) (n : Nat), C'.mu[n]? = some w.heap.size → C'.w.heap[w.heap.size]? = some (.cells arr e) → Rep C' (f n) u)
    (h : Reps (ctx mu bs w) cs (arr.toList.take cs.length)) (hl : cs.length ≤ arr.size) (ha : cs.all V.isCell = true) : NewBlk P mu bs w tmps o f (.cells cs) u (.cells arr e) :=
  ⟨hrun, rfl, hrep, fun C' hE hh => ⟨arr, e, (0, 0), hh, rfl, hl, Reps.mono hE _ _ h, ha⟩⟩

theorem allocB_ok {bs : List ABlk} (hT : RelT (ctx mu bs w) T tmps) {op : O} {f : Nat → V} {b : ABlk} (h : allocB T op = some (f, b)) {o : Oper} (hf : fitO P op o.op = true) : ∃ u obj, NewBlk P mu bs w tmps o f b u obj := by
  obtain ⟨dst, op', ty, pos, after, guard⟩ := o
  cases op with
  | alloc z =>
    cases op' <;> simp only [fitO, Bool.false_eq_true] at hf
    rename_i e
    obtain ⟨i, zv, hi, hz, hzs, hzr, hza⟩ := zeroIs_spec hf
    simp only [allocB, Option.some.injEq, Prod.mk.injEq] at h
    obtain ⟨rfl, rfl⟩ := h
    have hr := hzr (ctx mu bs w)
    have hl := hr.length
    refine ⟨.pointer (some ⟨w.heap.size, 0, none⟩), .cells zv.cells e, NewBlk.cells (by simp [execOp, Instr.alloc, zeroValue, typeInfo, hi, hz, newVar, newRow]) (fun C' n hn _ => ?_) (by rw [List.take_of_length_le (by omega)]; exact hr) (by simp at hl; omega) hza⟩
    simp only [Rep]
    exact ⟨w.heap.size, hn, rfl⟩
  | box imm x =>
    cases imm with
    | true => simp [allocB] at h
    | false =>
      cases op' <;> simp only [fitO, Bool.false_eq_true] at hf
      rename_i e y
      simp only [allocB] at h
      split at h
      · rename_i a ha
        split at h <;> simp only [Option.some.injEq, reduceCtorEq, Prod.mk.injEq] at h
        rename_i hb
        obtain ⟨rfl, rfl⟩ := h
        have hr := ev_spec hT ha hf
        have hc := hr.cells
        have hl := hc.length
        refine ⟨.pointer (some ⟨w.heap.size, 0, none⟩), .cells (ev1 tmps y).cells e, NewBlk.cells (by simp [execOp, Instr.box, newVar, newRow]) (fun C' n hn _ => ?_) (by rw [List.take_of_length_le (by omega)]; exact hc) (by simp at hl; omega) (hr.cellsAll hb)⟩
        simp only [Rep]
        exact ⟨w.heap.size, hn, rfl⟩
      · simp at h
  | buildSl m len size z ps =>
    cases m with
    | false => simp [allocB] at h
    | true =>
      cases op' <;> simp only [fitO, Bool.false_eq_true, Bool.and_eq_true, decide_eq_true_eq] at hf
      rename_i t n qs
      obtain ⟨⟨rfl, h1⟩, h2⟩ := hf
      split at h2
      · rename_i e hu
        simp only [Bool.and_eq_true, decide_eq_true_eq, beq_iff_eq] at h2
        obtain ⟨⟨⟨hs, hzl⟩, hz⟩, h3⟩ := h2
        obtain ⟨i, zv, hi, hzz, hzs, hzr, hza⟩ := zeroIs_spec hz
        simp only [allocB] at h
        split at h
        · rename_i vs hvs
          split at h
          · rename_i rs hrs
            split at h <;> simp only [Option.some.injEq, reduceCtorEq, Prod.mk.injEq] at h
            rename_i hlen
            obtain ⟨rfl, rfl⟩ := h
            have hsz : zv.cells.size = size := by
              have := (hzr (ctx mu bs w)).length
              simp at this
              omega
            have hzero := rept_zero (hzr (ctx mu bs w)) len (len * size) (by rw [hsz])
            obtain ⟨us', h4, h5, h6⟩ := evps_spec hT hvs h3 hzero (all_rept hza len) hrs
            simp only [Array.toArray_toList] at h4
            have hl5 := h5.length
            refine ⟨.slice (some ⟨w.heap.size, 0, none⟩) len len, .cells us' e, NewBlk.cells ?_ (fun C' n hn hh => ?_) (by rw [List.take_of_length_le (by omega)]; exact h5) (by simp at hl5; omega) h6⟩
            · have hle : ¬ (16777216 < len * size) := by omega
              by_cases h0 : len * size = 0
              · have hx : ((Array.range (len * size)).map (zv.cells[· % zv.cells.size]!)) = ((Array.range (len * size)).map ((#[] : Array Value)[· % (#[] : Array Value).size]!)) := by
                  rw [h0]; simp
                rw [hx] at h4
                simp [execOp, Instr.buildSlice, run_underlying hu, run_size hs, h0, newRow]
                rw [h0] at h4
                simp at h4
                simp [h4]
              · simp [execOp, Instr.buildSlice, run_underlying hu, run_size hs, hle, h0, newRow, zeroValue, typeInfo, hi, hzz, h4]
            · simp only [Rep]
              refine ⟨w.heap.size, len, hn, rfl, Nat.le_refl _, fun c hc => by simpa using hc, e, us'.size, ?_, by simp at hl5; omega⟩
              simp only [World.shape?, hh]
          · simp at h
        · simp at h
      · simp at h2
  | mkMap =>
    cases op' <;> try simp only [fitO, Bool.false_eq_true] at hf
    rename_i t r
    cases r <;> simp only [fitO, Bool.false_eq_true] at hf
    simp only [allocB, Option.some.injEq, Prod.mk.injEq] at h
    obtain ⟨rfl, rfl⟩ := h
    refine ⟨.map (some w.heap.size), .map #[] 0, ⟨by simp [execOp, Instr.makeMap], rfl, fun C' n hn _ => ?_, fun C' _ hh => ⟨#[], 0, hh, by simp [Reps2]⟩⟩⟩
    simp only [Rep]
    exact ⟨w.heap.size, hn, rfl⟩
  | mkSl size bytes z l c =>
    cases op' <;> simp only [fitO, Bool.false_eq_true, Bool.and_eq_true] at hf
    rename_i t l' c'
    obtain ⟨⟨h1, h2⟩, h3⟩ := hf
    split at h1
    · rename_i e hu
      obtain ⟨h1, hz⟩ := Bool.and_eq_true_iff.1 h1
      obtain ⟨i, zv, hi, hzz, hzs, hzr, hza⟩ := zeroIs_spec hz
      simp only [hi, Bool.and_eq_true, decide_eq_true_eq] at h1
      obtain ⟨rfl, rfl⟩ := h1
      simp only [allocB] at h
      split at h
      · rename_i li ci hl hc
        split at h <;> simp only [Option.some.injEq, reduceCtorEq, Prod.mk.injEq] at h
        rename_i hb
        obtain ⟨b1, b2, b3, b4, b5⟩ := hb
        obtain ⟨rfl, rfl⟩ := h
        have el := lit_spec (ev_spec hT hl h2)
        have ec := lit_spec (ev_spec hT hc h3)
        have wl := wrap_small b1 (by omega)
        have wc := wrap_small (show 0 ≤ ci by omega) b4
        have hr := hzr (ctx mu bs w)
        have hlen := hr.length
        have hrep := rept_zero hr ci.toNat (ci.toNat * i.size) (by rw [hzs])
        have hlr := hrep.length
        refine ⟨.slice (some ⟨w.heap.size, 0, none⟩) li.toNat ci.toNat, .cells ((Array.range (ci.toNat * i.size)).map (zv.cells[· % zv.cells.size]!)) e, NewBlk.cells ?_ (fun C' n hn hh => ?_) (by rw [List.take_of_length_le (by omega)]; exact hrep) (by simp at hlr ⊢; omega) (all_rept hza _)⟩
        · have n1 : ¬ (ci < 0) := by omega
          have n2 : ¬ (281474976710656 < (i.bytes : Int) * ci) := by rw [Int.mul_comm]; omega
          have n3 : ¬ (li < 0) := by omega
          have n4 : ¬ (ci < li) := by omega
          by_cases h0 : ci.toNat * i.size = 0
          · have hx : ((Array.range (ci.toNat * i.size)).map (zv.cells[· % zv.cells.size]!)) = #[] := by rw [h0]; simp
            rw [hx]
            simp [execOp, Instr.makeSlice, run_underlying hu, el, ec, asInt, asIntOf, typeInfo, hi, wl, wc, n1, n2, n3, n4, sizeOf, h0, newRow]
            congr 2
            exact Array.eq_empty_of_size_eq_zero (by simp)
          · simp [execOp, Instr.makeSlice, run_underlying hu, el, ec, asInt, asIntOf, typeInfo, hi, wl, wc, n1, n2, n3, n4, sizeOf, h0, newRow, zeroValue, hzz]
        · simp only [Rep]
          refine ⟨w.heap.size, ci.toNat, hn, rfl, by omega, fun c hc => by simpa using hc, e, ((Array.range (ci.toNat * i.size)).map (zv.cells[· % zv.cells.size]!)).size, ?_, by simp⟩
          simp only [World.shape?, hh]
      · simp at h
    · simp at h1
  | _ => simp [allocB] at h

theorem h_allocB (hR : R mu H.blks w) (hT : RelT (ctx mu H.blks w) T tmps) {op : O} {f : Nat → V} {b : ABlk} (h : allocB T op = some (f, b)) {o : Oper} (hf : fitO P op o.op = true) : OkH P mu H tmps w o (f H.blks.length) (some (H.push b)) := by
  obtain ⟨u, obj, h1, h2, h3, h4⟩ := allocB_ok (P := P) hT h hf
  have hg := Grows.push w obj
  have hE := newExt hR hg (Nat.le_refl _) b
  have hheap : ({ w with heap := w.heap.push obj } : World).heap[w.heap.size]? = some obj := Array.getElem?_push_size
  refine ⟨mu ++ [w.heap.size], u, _, .inl h1, hE, newR hR hg (Nat.le_refl _) (h4 _ hE hheap), h3 _ _ ?_ hheap, Keeps.push _ _⟩
  simp only [ctx]
  rw [← hR.len]
  simp

theorem run_loadRow {C : Ctx} {t : Nat} {n : Option Nat} (h : aggOf P t = some n) {k off : Nat} {cs : List V} {us : List Value} (hr : Reps C cs us) (ha : cs.all V.isCell = true)
    (hc : ∀ (j : Nat) (u : Value), us[j]? = some u → w.cell? ⟨k, j, none⟩ = some u) {v : V} (hv : partV cs off n = some v) :
    ∃ u, (loadVar t ⟨k, off, none⟩).run P w = .ok u w ∧ Rep C v u := by
  cases n with
  | none =>
    simp only [partV] at hv
    obtain ⟨u, h1, h2⟩ := hr.get off v hv
    exact ⟨u, by simp [loadVar, run_agg h, hc off u h1], h2⟩
  | some m =>
    simp only [partV] at hv
    split at hv
    · rename_i hk
      simp only [Option.some.injEq] at hv
      subst hv
      have hr' := (hr.drop off).take m
      have hl' := hr'.length
      have := run_loadCells_list (P := P) w ⟨k, off, none⟩ ((us.drop off).take m) (fun j u hu => by
        rw [add_none]
        rw [List.getElem?_take] at hu
        split at hu
        · rw [List.getElem?_drop] at hu
          exact hc _ _ hu
        · simp at hu)
      have hl : ((us.drop off).take m).length = m := by rw [hl']; simp; omega
      rw [hl] at this
      refine ⟨.agg ((us.drop off).take m).toArray, by simp only [loadVar, Sem.run_bind, run_agg h, Option.isSome_some, Result.andThen_ok, if_true, run_size (agg_size h), this, Sem.run_pure], ?_⟩
      simp only [Rep]
      refine ⟨_, rfl, hr', ?_⟩
      rw [List.all_eq_true] at ha ⊢
      exact fun x hx => ha x (List.mem_of_mem_drop (List.mem_of_mem_take hx))
    · simp at hv

theorem h_load (hR : R mu H.blks w) (hT : RelT (ctx mu H.blks w) T tmps) {n : Option Nat} {x : Opd} {v : V} {oH : Option Heap} (h : evH T H (.load n x) = some (v, oH)) {o : Oper} (hf : fitO P (.load n x) o.op = true) : OkH P mu H tmps w o v oH := by
  obtain ⟨dst, op, ty, pos, after, guard⟩ := o
  cases op <;> simp only [fitO, Bool.false_eq_true, Bool.and_eq_true, beq_iff_eq] at hf
  obtain ⟨h1, h2⟩ := hf
  simp only [evH] at h
  split at h
  · rename_i b off hx
    split at h
    · rename_i cs hb
      split at h <;> simp only [Option.some.injEq, reduceCtorEq, Prod.mk.injEq] at h
      rename_i v0 hp
      obtain ⟨rfl, rfl⟩ := h
      have hr := ev_spec hT hx h2
      simp only [Rep, ctx] at hr
      obtain ⟨k, hk, e⟩ := hr
      obtain ⟨arr, et, fz, a1, a2, a3, a4, a5⟩ := hR.ok b k _ hb hk
      simp only [ctx] at a1
      obtain ⟨u, hu1, hu2⟩ := run_loadRow (P := P) h1 a4 a5 (fun j u hu => by
        rw [cell_of_heap a1]
        rw [List.getElem?_take] at hu
        split at hu
        · simpa using hu
        · simp at hu) hp
      exact ⟨mu, u, w, .inl (by simp [execOp, e, Instr.loadAt, Instr.sureAddr, hu1]), Ext.refl _, hR, hu2, Keeps.refl _⟩
    · simp at h
  · simp at h

theorem Reps.one {C : Ctx} {vs : List V} {us : List Value} (h : Reps C vs us) (ha : vs.all V.isCell = true) : ∀ u, u ∈ us → u.oneCell' = true := by
  intro u hu
  obtain ⟨i, hi⟩ := List.mem_iff_getElem?.1 hu
  have hlt : i < vs.length := by rw [← h.length]; exact (List.getElem?_eq_some_iff.1 hi).1
  obtain ⟨u', h1, h2⟩ := h.get i _ (List.getElem?_eq_getElem hlt)
  rw [h1] at hi
  cases hi
  rw [List.all_eq_true] at ha
  exact h2.one (ha _ (List.getElem_mem hlt))

theorem h_store (hR : R mu H.blks w) (hT : RelT (ctx mu H.blks w) T tmps) {n : Nat} {a x : Opd} {v : V} {oH : Option Heap} (h : evH T H (.store n a x) = some (v, oH)) {o : Oper} (hf : fitO P (.store n a x) o.op = true) : OkH P mu H tmps w o v oH := by
  obtain ⟨dst, op, ty, pos, after, guard⟩ := o
  cases op <;> simp only [fitO, Bool.false_eq_true, Bool.and_eq_true, beq_iff_eq] at hf
  rename_i t a' x'
  obtain ⟨⟨h1, h2⟩, h3⟩ := hf
  simp only [evH] at h
  split at h
  · rename_i b off v0 ha hx
    split at h
    · rename_i cs hb
      split at h <;> simp only [Option.some.injEq, reduceCtorEq, Prod.mk.injEq] at h
      rename_i hc
      obtain ⟨hc1, hc2, hc3⟩ := hc
      obtain ⟨rfl, rfl⟩ := h
      have hr := ev_spec hT ha h2
      simp only [Rep, ctx] at hr
      obtain ⟨k, hk, e⟩ := hr
      obtain ⟨arr, et, fz, a1, a2, a3, a4, a5⟩ := hR.ok b k _ hb hk
      simp only [ctx] at a1
      have hrv := ev_spec hT hx h3
      have hcv := hrv.cells
      have hlv := hcv.length
      have hav := hrv.cellsAll hc3
      have hone := hcv.one hav
      have hfit : off + (ev1 tmps x').cells.toList.length ≤ arr.size := by omega
      have hst := run_storeCells_atF P k off et fz (ev1 tmps x').cells.toList 0 arr w a1 (by omega) (by simpa using hfit) hone
      simp only [Nat.add_zero] at hst
      have hsz : (arr.toList.take off ++ (ev1 tmps x').cells.toList ++ arr.toList.drop (off + (ev1 tmps x').cells.toList.length)).toArray.size = arr.size := by
        simp at hfit ⊢
        omega
      have hT' := Turned.row (arr' := (arr.toList.take off ++ (ev1 tmps x').cells.toList ++ arr.toList.drop (off + (ev1 tmps x').cells.toList.length)).toArray) a1 hsz
      have hE : Ext (ctx mu H.blks w) (ctx mu (H.blks.set b (.cells (splice cs off v0.cells))) _) := setExt hb hk rfl hT' (fun _ _ => trivial) (fun _ _ hn => absurd trivial hn)
      have hlen : (splice cs off v0.cells).length = cs.length := by simp [splice]; omega
      refine ⟨mu, undef, _, .inr ⟨?_, rfl⟩, hE, setR hR hb hk rfl hT' (fun _ _ => trivial) (fun _ _ hn => absurd trivial hn) ?_, ?_, Keeps.write _ _ _⟩
      · have hsize : (ev1 tmps x').cells.size = n := by simp at hlv; omega
        simp [execOp, e, Instr.storeAt, Instr.sureAddr, storeVar, run_size h1, hsize, hst]
      · refine ⟨_, et, fz, setRow_heap w k arr _ et fz a1, a2, by rw [hlen, hsz]; exact a3, ?_, all_splice a5 hav _ _⟩
        have := Reps.mono hE _ _ (a4.splice hcv off)
        rw [hlen]
        have e1 : (List.take off (List.take cs.length arr.toList) ++ (ev1 tmps x').cells.toList ++ List.drop (off + (ev1 tmps x').cells.toList.length) (List.take cs.length arr.toList)) =
            List.take cs.length (arr.toList.take off ++ (ev1 tmps x').cells.toList ++ arr.toList.drop (off + (ev1 tmps x').cells.toList.length)) := by
          rw [List.take_append, List.take_append, List.take_take, Nat.min_eq_left (by omega)]
          rw [List.take_of_length_le (l := arr.toList.take off) (by simp; omega)]
          rw [List.take_of_length_le (l := (ev1 tmps x').cells.toList) (by simp at *; omega)]
          rw [List.drop_take]
          congr 2
          simp at *
          omega
        rw [e1] at this
        exact this
      · simp only [Rep]
        exact ⟨#[], rfl, by simp [Reps]⟩
    · simp at h
  · simp at h

end
end Go.Ev
