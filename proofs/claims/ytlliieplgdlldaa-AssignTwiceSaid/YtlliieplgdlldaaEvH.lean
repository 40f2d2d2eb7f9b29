/- The rest of the operations that ask nothing of memory that may be written, and all of them together.
   Conditions: none; plain lemmas. -/
import Derived.Test.YtlliieplgdlldaaEvG
namespace Go.Ev

section
variable {P : Program} {mu : List Nat} {bs : List ABlk} {w : World} {T : Tm} {tmps : Array Value}

theorem exec_neq {o : Oper} {t yt : TypeId} {x y : Operand} (he : o.op = .binOp .neq t x y yt) {ρ : Operand → Value} {u z : Value} (hx : ρ x = u) (hy : ρ y = z) (hk : isConstO y = true)
    (hni : ∀ k a k' b, ¬ (u = .int k a ∧ z = .int k' b)) (hns : ∀ a b, ¬ (u = .string a ∧ z = .string b)) {b : Bool} (h : (Op.equal t u z).run P w = .ok b w)
    (hz : inert z = true) (hza : ∀ k a, z ≠ .float k a) (hzc : ∀ k a c, z ≠ .complex k a c) :
    (execOp ρ o).run P w = .ok (.value (.bool (!b))) w := by
  have hg : (eqGuard .neq t x y u z).run P w = .ok () w := by
    cases y <;> simp [isConstO] at hk
    cases z <;> simp [inert] at hz <;> cases u <;> simp [eqGuard]
  rw [exec_bin he, hx, hy, Sem.run_bind, hg]
  simp only [Result.andThen_ok]
  have : binOp .neq t u z = (do pure (.bool (!(← Op.equal t u z))) : Sem Value) := by
    cases z <;> simp [inert] at hz hza hzc <;> cases u <;> first | rfl | (exact absurd ⟨rfl, rfl⟩ (hni _ _ _ _)) | (exact absurd ⟨rfl, rfl⟩ (hns _ _))
  rw [this]
  simp [h]

theorem eqV_right {c : EqC} {x y : V} {b : Bool} (h : eqV c x y = some b) : ∃ l, y = .lit l ∧ inert l = true ∧ (∀ k n, l ≠ .int k n) ∧ (∀ s, l ≠ .string s) ∧ (∀ k a, l ≠ .float k a) ∧ (∀ k a e, l ≠ .complex k a e) := by
  unfold eqV at h
  split at h
  · exact ⟨_, rfl, rfl, by simp, by simp, by simp, by simp⟩
  · split at h
    · rename_i h1
      unfold isNil at h1
      split at h1 <;> try (split at h1 <;> simp at h1; done)
      · rename_i l
        split at h1
        · rename_i hn
          unfold nilLit at hn
          split at hn <;> first | exact ⟨_, rfl, rfl, by simp, by simp, by simp, by simp⟩ | simp at hn
        · simp at h1
      · simp at h1
    · simp at h

theorem p_eq (hT : RelT (ctx mu bs w) T tmps) {ng : Bool} {c : EqC} {x y : Opd} {v : V} (h : evP T (.eq ng c x y) = some v) {o : Oper} (hf : fitO P (.eq ng c x y) o.op = true) : OkP P mu bs tmps w o v := by
  obtain ⟨dst, op', ty, pos, after, guard⟩ := o
  cases op' <;> simp only [fitO, Bool.false_eq_true, Bool.and_eq_true, decide_eq_true_eq] at hf
  obtain ⟨⟨⟨⟨rfl, h1⟩, h2⟩, h3⟩, h4⟩ := hf
  simp only [evP] at h
  split at h
  · rename_i a b ha hb
    split at h <;> simp only [Option.some.injEq, reduceCtorEq] at h
    rename_i r hr
    subst h
    obtain ⟨l, rfl, hl, hi, hs, hfl, hco⟩ := eqV_right hr
    have ra := ev_spec hT ha h2
    have rb := ev_spec hT hb h3
    have e := run_eqV (P := P) h1 ra rb hr w
    have ez := lit_spec rb
    rw [ez] at e
    cases ng with
    | false => exact OkP.still (exec_eql rfl rfl ez h4 (fun _ _ _ _ hh => hi _ _ hh.2) (fun _ _ hh => hs _ hh.2) e hl hfl hco) (rep_lit rfl)
    | true => exact OkP.still (exec_neq rfl rfl ez h4 (fun _ _ _ _ hh => hi _ _ hh.2) (fun _ _ hh => hs _ hh.2) e hl hfl hco) (rep_lit rfl)
  · simp at h

theorem p_len (hT : RelT (ctx mu bs w) T tmps) {c : LenC} {x : Opd} {v : V} (h : evP T (.len c x) = some v) {o : Oper} (hf : fitO P (.len c x) o.op = true) : OkP P mu bs tmps w o v := by
  obtain ⟨dst, op, ty, pos, after, guard⟩ := o
  cases op <;> simp only [fitO, Bool.false_eq_true] at hf
  rename_i cl
  obtain ⟨callee, args, argTypes⟩ := cl
  cases callee <;> try simp only [fitO, Bool.false_eq_true] at hf
  rename_i bi
  cases bi <;> try simp only [fitO, Bool.false_eq_true] at hf
  split at hf
  · rename_i y t e1 e2
    have e1' : args = #[y] := by simpa using congrArg List.toArray e1
    have e2' : argTypes = #[t] := by simpa using congrArg List.toArray e2
    subst e1' e2'
    simp only [Bool.and_eq_true] at hf
    obtain ⟨h1, h2⟩ := hf
    cases c with
    | str =>
      simp only [evP] at h
      simp only [lenClass] at h1
      split at h1 <;> try simp only [Bool.false_eq_true] at h1
      rename_i hu
      split at h <;> simp only [Option.some.injEq, reduceCtorEq] at h
      rename_i s hc
      subst h
      have e := lit_spec (ev_spec hT hc h2)
      exact OkP.still (by simp [execOp, resolve, invoke, builtin, Builtin.len_, e, run_underlying hu, goInt]) (rep_lit rfl)
    | slice =>
      simp only [evP] at h
      simp only [lenClass] at h1
      split at h1 <;> try simp only [Bool.false_eq_true] at h1
      rename_i el hu
      split at h <;> simp only [Option.some.injEq, reduceCtorEq] at h <;> rename_i hc <;> subst h <;> have hr := ev_spec hT hc h2 <;> simp only [Rep] at hr
      · obtain ⟨_, _, e, _⟩ := hr
        exact OkP.still (by simp [execOp, resolve, invoke, builtin, Builtin.len_, e, run_underlying hu, goInt]) (rep_lit rfl)
      · obtain ⟨_, _, _, e, _⟩ := hr
        exact OkP.still (by simp [execOp, resolve, invoke, builtin, Builtin.len_, e, run_underlying hu, goInt]) (rep_lit rfl)
      · obtain ⟨_, e⟩ := hr
        exact OkP.still (by simp [execOp, resolve, invoke, builtin, Builtin.len_, e, run_underlying hu, goInt]) (rep_lit rfl)
    | map => simp [evP] at h
  · simp at hf

theorem fold_set (off : Nat) : ∀ (l : List Value) (s : Nat) (a : Array Value), off + s + l.length ≤ a.size →
    ((l.zipIdx s).foldl (fun (cs : Array Value) (p : Value × Nat) => cs.setIfInBounds (off + p.2) p.1) a).toList = a.toList.take (off + s) ++ l ++ a.toList.drop (off + s + l.length)
  | [], s, a, _ => by simp
  | z :: l, s, a, ha => by
    simp only [List.zipIdx_cons, List.foldl_cons]
    rw [fold_set off l (s + 1) _ (by simp at ha ⊢; omega)]
    have hk : off + s < a.toList.length := by simp at ha ⊢; omega
    simp only [Array.toList_setIfInBounds]
    rw [List.set_eq_take_append_cons_drop, if_pos hk]
    have h1 : (a.toList.take (off + s) ++ z :: a.toList.drop (off + s + 1)).take (off + (s + 1)) = a.toList.take (off + s) ++ [z] := by
      rw [List.take_append, List.take_of_length_le (by simp; omega)]
      have : off + (s + 1) - (a.toList.take (off + s)).length = 1 := by simp at hk ⊢; omega
      rw [this]
      rfl
    have h2 : (a.toList.take (off + s) ++ z :: a.toList.drop (off + s + 1)).drop (off + (s + 1) + l.length) = a.toList.drop (off + s + (z :: l).length) := by
      rw [List.drop_append, List.drop_of_length_le (by simp; omega)]
      have : off + (s + 1) + l.length - (a.toList.take (off + s)).length = l.length + 1 := by simp at hk ⊢; omega
      rw [this]
      simp only [List.nil_append, List.drop_succ_cons, List.drop_drop, List.length_cons]
      congr 1
      omega
    rw [h1, h2]
    simp

theorem Reps.splice {C : Ctx} {cs vs : List V} {us xs : List Value} (h : Reps C cs us) (h' : Reps C vs xs) (off : Nat) :
    Reps C (cs.take off ++ vs ++ cs.drop (off + vs.length)) (us.take off ++ xs ++ us.drop (off + xs.length)) := by
  have := ((h.take off).append h').append (h.drop (off + vs.length))
  rw [h'.length]
  exact this

theorem all_splice {cs vs : List V} (h : cs.all V.isCell = true) (h' : vs.all V.isCell = true) (a b : Nat) : (cs.take a ++ vs ++ cs.drop b).all V.isCell = true := by
  rw [List.all_eq_true] at *
  intro x hx
  simp only [List.mem_append] at hx
  rcases hx with (hx | hx) | hx
  · exact h x (List.mem_of_mem_take hx)
  · exact h' x hx
  · exact h x (List.mem_of_mem_drop hx)

theorem evps_spec {C : Ctx} (hT : RelT C T tmps) {place : Nat → Option (Nat × Nat)} : ∀ {ps : List (Nat × Nat × Opd)} {qs : List (Nat × Operand)} {vs : List (Nat × Nat × V)}, evps T ps = some vs → fitPs P place ps qs = true →
    ∀ {cs : List V} {us : List Value} {rs : List V}, Reps C cs us → cs.all V.isCell = true → fillV cs vs = some rs → ∃ us' : Array Value, Instr.fill place us.toArray (qs.map fun (i, x) => (i, ev1 tmps x)) = some us' ∧ Reps C rs us'.toList ∧ rs.all V.isCell = true
  | [], [], vs, h, _, cs, us, rs, hr, hca, hv => by
    simp only [evps, Option.some.injEq] at h
    subst h
    simp only [fillV, Option.some.injEq] at hv
    subst hv
    exact ⟨us.toArray, rfl, by simpa using hr, hca⟩
  | (off, size, x) :: ps, (i, y) :: qs, vs, h, hf, cs, us, rs, hr, hca, hv => by
    simp only [fitPs, Bool.and_eq_true, decide_eq_true_eq] at hf
    obtain ⟨⟨h1, h2⟩, h3⟩ := hf
    simp only [evps] at h
    split at h
    · rename_i v hx
      split at h
      · rename_i vs' hvs
        simp only [Option.some.injEq] at h
        subst h
        simp only [fillV] at hv
        split at hv
        · rename_i hc
          obtain ⟨hc1, hc2, hc3⟩ := hc
          have hrv := (ev_spec hT hx h2).cells
          have hlv := hrv.length
          have hlu := hr.length
          have hsz : off + (ev1 tmps y).cells.size ≤ us.toArray.size := by simp at hlv ⊢; omega
          have hfold := fold_set off (ev1 tmps y).cells.toList 0 us.toArray (by simpa using hsz)
          simp only [Nat.add_zero, List.toList_toArray] at hfold
          have hrs := hr.splice hrv off
          rw [hc1] at hrs
          obtain ⟨us', h5, h6, h7⟩ := evps_spec hT hvs h3 hrs (all_splice hca hc3 _ _) hv
          refine ⟨us', ?_, h6, h7⟩
          simp only [List.map_cons, Instr.fill, h1]
          have e1 : ((ev1 tmps y).cells.size ≠ size) = False := by simp at hlv ⊢; omega
          have e2 : (decide (off + (ev1 tmps y).cells.size > us.toArray.size)) = false := by simp at hsz ⊢; omega
          simp only [e1, e2, decide_false, Bool.or_false, Bool.false_eq_true, if_false]
          rw [← h5]
          congr 1
          apply Array.ext'
          rw [← Array.foldl_toList, Array.toList_zipIdx]
          simpa using hfold
        · simp at hv
      · simp at h
    · simp at h
  | [], _ :: _, _, _, hf, _, _, _, _, _, _ => by simp [fitPs] at hf
  | _ :: _, [], _, _, hf, _, _, _, _, _, _ => by simp [fitPs] at hf


theorem zeroIs_spec {t : TypeId} {z : List V} (h : zeroIs P t z = true) : ∃ i zv, P.info? t = some i ∧ i.zero = some zv ∧ zv.cells.size = i.size ∧ (∀ C : Ctx, Reps C z zv.cells.toList) ∧ z.all V.isCell = true := by
  unfold zeroIs at h
  split at h
  · rename_i i hi
    split at h
    · rename_i v hv
      simp only [Bool.and_eq_true, decide_eq_true_eq] at h
      exact ⟨i, v, hi, hv, h.1.1, fun C => fitVs_spec C _ _ h.1.2, h.2⟩
    · simp at h
  · simp at h

theorem run_mapM {α β : Type} (f : α → Sem β) (g : α → β) (w : World) : ∀ (l : List α), (∀ x, x ∈ l → (f x).run P w = .ok (g x) w) → (l.mapM f).run P w = .ok (l.map g) w
  | [], _ => by simp
  | x :: l, h => by
    rw [List.mapM_cons]
    simp [h x (by simp), run_mapM f g w l (fun y hy => h y (by simp [hy]))]

theorem run_mapMA {α β : Type} (f : α → Sem β) (g : α → β) (w : World) (l : Array α) (h : ∀ x, x ∈ l.toList → (f x).run P w = .ok (g x) w) : (l.mapM f).run P w = .ok (l.map g) w := by
  rw [Array.mapM_eq_mapM_toList]
  simp [run_mapM f g w l.toList h]
  exact Array.ext' (by simp)

theorem p_build (hT : RelT (ctx mu bs w) T tmps) {z : List V} {ps : List (Nat × Nat × Opd)} {v : V} (h : evP T (.build z ps) = some v) {o : Oper} (hf : fitO P (.build z ps) o.op = true) : OkP P mu bs tmps w o v := by
  obtain ⟨dst, op, ty, pos, after, guard⟩ := o
  cases op <;> simp only [fitO, Bool.false_eq_true, Bool.and_eq_true] at hf
  rename_i t qs
  obtain ⟨⟨h1, h2⟩, h3⟩ := hf
  obtain ⟨i, zv, hi, hz, hzs, hzr, hza⟩ := zeroIs_spec h1
  simp only [evP] at h
  split at h
  · rename_i vs hvs
    split at h <;> simp only [Option.some.injEq, reduceCtorEq] at h
    rename_i rs hrs
    subst h
    obtain ⟨us', h4, h5, h6⟩ := evps_spec hT hvs h3 (hzr _) hza hrs
    simp only [Array.toArray_toList] at h4
    have hrep : Rep (ctx mu bs w) (.agg rs) (.agg us') := by
      simp only [Rep]
      exact ⟨us', rfl, h5, h6⟩
    cases hu : P.underlying t with
    | none => simp [fieldsKnown, hu] at h2
    | some d =>
      cases d <;> simp only [fieldsKnown, hu, Bool.false_eq_true] at h2
      · rename_i n e
        obtain ⟨s, hs⟩ := Option.isSome_iff_exists.1 h2
        have hp : placeOf P t = fun i => some (i * s, s) := by
          funext i
          simp [placeOf, hu, hs]
        rw [hp] at h4
        refine OkP.still ?_ hrep
        simp [execOp, Instr.build, zeroValue, typeInfo, hi, hz, run_underlying hu, run_size hs, h4]
      · rename_i fs
        have hk : ∀ f, f ∈ fs.toList → szOf P f.type = some ((szOf P f.type).getD 0) := by
          intro f hf
          rw [List.all_eq_true] at h2
          obtain ⟨s, hs⟩ := Option.isSome_iff_exists.1 (h2 f hf)
          simp [hs]
        have hm := run_mapMA (P := P) (fun f : Field => (do pure (f.offset, ← sizeOf f.type) : Sem (Nat × Nat))) (fun f => (f.offset, (szOf P f.type).getD 0)) w fs (fun f hf => by simp [run_size (hk f hf)])
        have hp : placeOf P t = fun i => (fs.map (fun f => (f.offset, (szOf P f.type).getD 0)))[i]? := by
          funext i
          simp only [placeOf, hu, Array.getElem?_map]
          cases hfi : fs[i]? with
          | none => simp
          | some f =>
            have := hk f (by simpa using Array.mem_of_getElem? hfi)
            simp only [Option.map_some]
            rw [this]
            simp
        rw [hp] at h4
        refine OkP.still ?_ hrep
        simp only [execOp, Instr.build, Sem.run_bind, zeroValue, typeInfo, run_program, Result.andThen_ok, hi, hz, Sem.run_pure, run_underlying hu, hm]
        simp only [Array.getElem?_map] at h4
        simp [h4]
  · simp at h

theorem rept_reps {C : Ctx} {z : List V} {us : List Value} (h : Reps C z us) : ∀ (n : Nat), ∃ xs : List Value, Reps C (rept n z) xs ∧ xs.length = n * us.length ∧ ∀ j, j < n * us.length → xs[j]? = us[j % us.length]?
  | 0 => ⟨[], by simp [rept, Reps], by simp, by simp⟩
  | n + 1 => by
    obtain ⟨xs, h1, h2, h3⟩ := rept_reps h n
    refine ⟨us ++ xs, by simp only [rept]; exact h.append h1, by simp [h2, Nat.add_mul, Nat.add_comm], fun j hj => ?_⟩
    rw [List.getElem?_append]
    split
    · rename_i hlt
      rw [Nat.mod_eq_of_lt hlt]
    · rename_i hge
      rw [h3 _ (by rw [Nat.add_mul] at hj; omega)]
      rw [← Nat.mod_eq_sub_mod (by omega)]

theorem all_rept {z : List V} (h : z.all V.isCell = true) : ∀ n, (rept n z).all V.isCell = true
  | 0 => rfl
  | n + 1 => by simp only [rept, List.all_append, h, all_rept h n, Bool.and_self]

theorem length_rept (z : List V) : ∀ n, (rept n z).length = n * z.length
  | 0 => by simp [rept]
  | n + 1 => by simp [rept, length_rept z n, Nat.add_mul, Nat.add_comm]

/-- the cells of a new row of zeros -/
theorem rept_zero {C : Ctx} {z : List V} {zc : Array Value} (h : Reps C z zc.toList) (n m : Nat) (hm : m = n * zc.size) : Reps C (rept n z) ((Array.range m).map (zc[· % zc.size]!)).toList := by
  obtain ⟨xs, h1, h2, h3⟩ := rept_reps h n
  have : xs = ((Array.range m).map (zc[· % zc.size]!)).toList := by
    apply List.ext_getElem?
    intro j
    by_cases hj : j < n * zc.size
    · rw [h3 j (by simpa using hj)]
      have hz : 0 < zc.size := Nat.pos_of_ne_zero (fun e => by simp [e] at hj)
      have hlt := Nat.mod_lt j hz
      simp only [Array.length_toList, Array.toList_map, Array.toList_range, List.getElem?_map, List.getElem?_range (hm ▸ hj), Option.map_some]
      rw [List.getElem?_eq_getElem (by simpa using hlt), getElem!_pos zc _ hlt]
      simp
    · have e1 : xs.length ≤ j := by rw [h2]; simp; omega
      rw [List.getElem?_eq_none e1, List.getElem?_eq_none (by simp; omega)]
  rw [← this]
  exact h1

/-- a block that nothing in the abstract heap is: what is read there stays -/
theorem repAt_new {mu : List Nat} {bs : List ABlk} {w : World} (hR : R mu bs w) {cs : List V} {arr : Array Value} (h : Reps (ctx mu bs w) cs (arr.toList.take cs.length)) (hl : cs.length ≤ arr.size) (ha : cs.all V.isCell = true) (e : TypeId) :
    RepAt (ctx mu bs { w with heap := w.heap.push (.cells arr e) }) w.heap.size 0 cs := by
  refine RepAt.of_get fun i v hv => ?_
  obtain ⟨u, h1, h2⟩ := h.get i v hv
  have hi : i < cs.length := (List.getElem?_eq_some_iff.1 hv).1
  have hu : arr[i]? = some u := by
    rw [List.getElem?_take, if_pos hi] at h1
    simpa using h1
  refine ⟨u, ?_, ?_, Rep.mono (Grows.push w _).ext _ _ h2, ?_⟩
  · simp only [ctx, Nat.zero_add]
    rw [cell_of_heap (arr := arr) (e := e) (fz := (0, 0)) (by simp)]
    exact hu
  · intro hm
    have := hR.owned_lt hm
    omega
  · rw [List.all_eq_true] at ha
    exact ha v (List.mem_of_getElem? hv)

theorem p_box (hR : R mu bs w) (hT : RelT (ctx mu bs w) T tmps) {x : Opd} {v : V} (h : evP T (.box true x) = some v) {o : Oper} (hf : fitO P (.box true x) o.op = true) : OkP P mu bs tmps w o v := by
  obtain ⟨dst, op, ty, pos, after, guard⟩ := o
  cases op <;> simp only [fitO, Bool.false_eq_true] at hf
  rename_i e y
  simp only [evP] at h
  split at h
  · rename_i a ha
    split at h <;> simp only [Option.some.injEq, reduceCtorEq] at h
    rename_i hb
    subst h
    have hr := (ev_spec hT ha hf).strip2
    have hc := hr.cells
    have hall := hr.cellsAll (by rw [boxable_strip2]; exact hb)
    have hl := hc.length
    refine ⟨.pointer (some ⟨w.heap.size, 0, none⟩), _, .inl (by simp [execOp, Instr.box, newVar, newRow]; rfl), Grows.push w _, ?_⟩
    simp only [Rep]
    refine ⟨_, _, rfl, repAt_new hR (arr := (ev1 tmps y).cells) ?_ ?_ hall e⟩
    · rw [List.take_of_length_le (by omega)]
      exact hc
    · simp at hl; omega
  · simp at h

theorem p_buildSl (hR : R mu bs w) (hT : RelT (ctx mu bs w) T tmps) {len size : Nat} {z : List V} {ps : List (Nat × Nat × Opd)} {v : V} (h : evP T (.buildSl false len size z ps) = some v) {o : Oper} (hf : fitO P (.buildSl false len size z ps) o.op = true) : OkP P mu bs tmps w o v := by
  obtain ⟨dst, op, ty, pos, after, guard⟩ := o
  cases op <;> simp only [fitO, Bool.false_eq_true, Bool.and_eq_true, decide_eq_true_eq] at hf
  rename_i t n qs
  obtain ⟨⟨rfl, h1⟩, h2⟩ := hf
  split at h2
  · rename_i e hu
    simp only [Bool.and_eq_true, decide_eq_true_eq, beq_iff_eq] at h2
    obtain ⟨⟨⟨hs, hzl⟩, hz⟩, h3⟩ := h2
    obtain ⟨i, zv, hi, hzz, hzs, hzr, hza⟩ := zeroIs_spec hz
    simp only [evP] at h
    split at h
    · rename_i vs hvs
      split at h
      · rename_i rs hrs
        split at h <;> simp only [Option.some.injEq, reduceCtorEq] at h
        rename_i hlen
        subst h
        have hsz : zv.cells.size = size := by
          have := (hzr (ctx mu bs w)).length
          simp at this
          omega
        have hzero := rept_zero (hzr (ctx mu bs w)) len (len * size) (by rw [hsz])
        obtain ⟨us', h4, h5, h6⟩ := evps_spec hT hvs h3 hzero (all_rept hza len) hrs
        simp only [Array.toArray_toList] at h4
        have h5s := h5.strip1
        have hl5 := h5s.length
        refine ⟨.slice (some ⟨w.heap.size, 0, none⟩) len len, { w with heap := w.heap.push (.cells us' e) }, .inl ?_, Grows.push w _, ?_⟩
        · have hle : ¬ (16777216 < len * size) := by omega
          by_cases h0 : len * size = 0
          · have : rs = [] := List.eq_nil_of_length_eq_zero (by omega)
            have hx : ((Array.range (len * size)).map (zv.cells[· % zv.cells.size]!)) = ((Array.range (len * size)).map ((#[] : Array Value)[· % (#[] : Array Value).size]!)) := by
              rw [h0]; simp
            rw [hx] at h4
            simp [execOp, Instr.buildSlice, run_underlying hu, run_size hs, hle, h0, newRow]
            rw [h0] at h4
            simp at h4
            simp [h4]
          · simp [execOp, Instr.buildSlice, run_underlying hu, run_size hs, hle, h0, newRow, zeroValue, typeInfo, hi, hzz, h4]
        · simp only [Rep]
          refine ⟨⟨w.heap.size, 0, none⟩, _, rfl, .inr rfl, Nat.le_refl _, repAt_new hR (arr := us') ?_ ?_ (by rw [all_strip1]; exact h6) e, rfl⟩
          · rw [List.take_of_length_le (by omega)]
            exact h5s
          · simp at hl5 ⊢; omega
      · simp at h
    · simp at h
  · simp at h2

end
end Go.Ev
