/- All operations on memory together; the end of a call.
   Conditions: none; plain lemmas. -/
import Derived.Test.YtlliieplgdlldaaEvM
namespace Go.Ev

section
variable {P : Program} {mu : List Nat} {H : Heap} {w : World} {T : Tm} {tmps : Array Value}

theorem h_app (hR : R mu H.blks w) (hT : RelT (ctx mu H.blks w) T tmps) {m : Bool} {size bytes : Nat} {x y : Opd} {v : V} {oH : Option Heap} (h : evH T H (.app m size bytes x y) = some (v, oH)) {o : Oper} (hf : fitO P (.app m size bytes x y) o.op = true) : OkH P mu H tmps w o v oH := by
  obtain ⟨dst, op, ty, pos, after, guard⟩ := o
  cases op <;> simp only [fitO, Bool.false_eq_true] at hf
  rename_i cl
  obtain ⟨callee, args, argTypes⟩ := cl
  cases callee <;> try simp only [fitO, Bool.false_eq_true] at hf
  rename_i bi
  cases bi <;> try simp only [fitO, Bool.false_eq_true] at hf
  split at hf
  · rename_i x' y' t u e1 e2
    have e1' : args = #[x', y'] := by simpa using congrArg List.toArray e1
    have e2' : argTypes = #[t, u] := by simpa using congrArg List.toArray e2
    subst e1' e2'
    simp only [Bool.and_eq_true, decide_eq_true_eq] at hf
    obtain ⟨⟨⟨⟨h1, h2⟩, rfl⟩, h3⟩, h4⟩ := hf
    split at h1 <;> try (simp at h1; done)
    rename_i e hu
    split at h1 <;> try (simp at h1; done)
    rename_i i hi
    simp only [Bool.and_eq_true, decide_eq_true_eq] at h1
    obtain ⟨⟨h5, h6⟩, h7⟩ := h1
    split at h7 <;> try (simp at h7; done)
    rename_i z hz
    simp only [decide_eq_true_eq] at h7
    simp only [evH] at h
    split at h
    · rename_i a b ha hb
      obtain ⟨mu', uu, w', g1, g2, g3, g4, g5⟩ := appV_ok (P := P) hR h (ev_spec hT ha h3) (ev_spec hT hb h4) hu hi hz h5 h6 h7 h2 ty
      exact ⟨mu', uu, w', .inl (by simp [execOp, resolve, invoke, builtin, g1]), g2, g3, g4, g5⟩
    · simp at h
  · simp at hf

theorem h_clr (hR : R mu H.blks w) (hT : RelT (ctx mu H.blks w) T tmps) {size : Nat} {z : List V} {x : Opd} {v : V} {oH : Option Heap} (h : evH T H (.clr size z x) = some (v, oH)) {o : Oper} (hf : fitO P (.clr size z x) o.op = true) : OkH P mu H tmps w o v oH := by
  obtain ⟨dst, op, ty, pos, after, guard⟩ := o
  cases op <;> simp only [fitO, Bool.false_eq_true] at hf
  rename_i cl
  obtain ⟨callee, args, argTypes⟩ := cl
  cases callee <;> try simp only [fitO, Bool.false_eq_true] at hf
  rename_i bi
  cases bi <;> try simp only [fitO, Bool.false_eq_true] at hf
  have hnil : Rep (ctx mu H.blks w) (.tup []) (.tuple #[]) := by
    simp only [Rep]
    exact ⟨#[], rfl, by simp [Reps]⟩
  split at hf
  · rename_i y t e1 e2
    have e1' : args = #[y] := by simpa using congrArg List.toArray e1
    have e2' : argTypes = #[t] := by simpa using congrArg List.toArray e2
    subst e1' e2'
    simp only [Bool.and_eq_true] at hf
    obtain ⟨⟨h1, h2⟩, h3⟩ := hf
    obtain ⟨e, hu, hs⟩ := elemIs_spec h1
    rw [hu] at h2
    simp only at h2
    obtain ⟨i, zv, hi, hz, hzs, hzr, hza⟩ := zeroIs_spec h2
    simp only [evH] at h
    split at h
    · rename_i b off len esz cap hx
      split at h
      · rename_i cs hb
        split at h <;> simp only [Option.some.injEq, reduceCtorEq, Prod.mk.injEq] at h
        rename_i hc
        obtain ⟨hc1, hc2⟩ := hc
        obtain ⟨rfl, rfl⟩ := h
        have hr := ev_spec hT hx h3
        simp only [Rep, ctx] at hr
        obtain ⟨k, cap', hk, e0, _⟩ := hr
        obtain ⟨arr, et, fz, a1, a2, a3, a4, a5⟩ := hR.ok b k _ hb hk
        simp only [ctx] at a1
        have hz0 := hzr (ctx mu H.blks w)
        have hzl : zv.cells.size = size := by
          have := hz0.length
          simp at this
          omega
        have hrep := rept_zero hz0 len (len * zv.cells.size) rfl
        have hlr := hrep.length
        rw [length_rept, hc2] at hlr
        have hone := hrep.one (all_rept hza len)
        cases len with
        | zero =>
          have hrun : (Builtin.clear_ #[t] ty #[ev1 tmps y]).run P w = .ok (.tuple #[]) w := by
            rw [e0]
            simp [Builtin.clear_, run_underlying hu]
          have hsp : splice cs off (rept 0 z) = cs := by simp [splice, rept]
          rw [hsp]
          have hset : H.blks.set b (.cells cs) = H.blks := by
            apply List.ext_getElem?
            intro j
            rw [List.getElem?_set]
            split
            · rename_i e9
              subst e9
              split
              · exact hb.symm
              · rename_i hlt
                rw [List.getElem?_eq_none (by omega)]
            · rfl
          refine ⟨mu, .tuple #[], w, .inl (by simp [execOp, resolve, invoke, builtin, hrun]), ?_, ?_, ?_, Keeps.write _ _ _⟩
          · simp only [Option.getD_some, Heap.write, hset]; exact Ext.refl _
          · simp only [Option.getD_some, Heap.write, hset]; exact hR
          · simp only [Option.getD_some, Heap.write, hset]; exact hnil
        | succ len =>
          generalize hvs : ((Array.range ((len + 1) * zv.cells.size)).map (zv.cells[· % zv.cells.size]!)) = vs at hrep hlr hone
          have hfit : off + vs.toList.length ≤ arr.size := by omega
          have hst := run_storeCells_atF P k off et fz vs.toList 0 arr w a1 (by omega) (by simpa using hfit) hone
          simp only [Nat.add_zero] at hst
          have hsz : (arr.toList.take off ++ vs.toList ++ arr.toList.drop (off + vs.toList.length)).toArray.size = arr.size := by
            simp at hfit ⊢
            omega
          have hT' := Turned.row (arr' := (arr.toList.take off ++ vs.toList ++ arr.toList.drop (off + vs.toList.length)).toArray) a1 hsz
          have hE : Ext (ctx mu H.blks w) (ctx mu (H.blks.set b (.cells (splice cs off (rept (len + 1) z)))) _) := setExt hb hk rfl hT' (fun _ _ => trivial) (fun _ _ hn => absurd trivial hn)
          have hrl : (rept (len + 1) z).length = (len + 1) * size := by rw [length_rept, hc2]
          have hlen : (splice cs off (rept (len + 1) z)).length = cs.length := by simp [splice, hrl]; omega
          refine ⟨mu, .tuple #[], _, .inl ?_, hE, setR hR hb hk rfl hT' (fun _ _ => trivial) (fun _ _ hn => absurd trivial hn) ?_, ?_, Keeps.write _ _ _⟩
          · have hrun : (Builtin.clear_ #[t] ty #[ev1 tmps y]).run P w = .ok (.tuple #[]) (w.setRow k (arr.toList.take off ++ vs.toList ++ arr.toList.drop (off + vs.toList.length)).toArray) := by
              rw [e0]
              have hvl : List.map (fun i => zv.cells[i % zv.cells.size]!) (List.range ((len + 1) * zv.cells.size)) = vs.toList := by rw [← hvs]; simp
              simp [Builtin.clear_, run_underlying hu, zeroValue, typeInfo, hi, hz, Builtin.zeroCells, hvl]
              rw [hst]
              simp
            simp [execOp, resolve, invoke, builtin, hrun]
          · refine ⟨_, et, fz, setRow_heap w k arr _ et fz a1, a2, by rw [hlen, hsz]; exact a3, ?_, all_splice a5 (all_rept hza _) _ _⟩
            have := Reps.mono hE _ _ (a4.splice hrep off)
            rw [hlen]
            have e1 : (List.take off (List.take cs.length arr.toList) ++ vs.toList ++ List.drop (off + vs.toList.length) (List.take cs.length arr.toList)) =
                List.take cs.length (arr.toList.take off ++ vs.toList ++ arr.toList.drop (off + vs.toList.length)) := by
              rw [List.take_append, List.take_append, List.take_take, Nat.min_eq_left (by omega)]
              rw [List.take_of_length_le (l := arr.toList.take off) (by simp; omega)]
              rw [List.take_of_length_le (l := vs.toList) (by simp at *; omega)]
              rw [List.drop_take]
              congr 2
              simp at *
              omega
            rw [e1] at this
            exact this
          · simp only [Rep]
            exact ⟨#[], rfl, by simp [Reps]⟩
      · simp at h
    · rename_i own hx
      simp only [Option.some.injEq, Prod.mk.injEq] at h
      obtain ⟨rfl, rfl⟩ := h
      have hr := ev_spec hT hx h3
      simp only [Rep] at hr
      obtain ⟨a, cap, e0, _⟩ := hr
      refine ⟨mu, .tuple #[], w, .inl ?_, Ext.refl _, hR, hnil, Keeps.refl _⟩
      have hrun : (Builtin.clear_ #[t] ty #[ev1 tmps y]).run P w = .ok (.tuple #[]) w := by
        rw [e0]
        simp [Builtin.clear_, run_underlying hu]
      simp [execOp, resolve, invoke, builtin, hrun]
    · rename_i hx
      simp only [Option.some.injEq, Prod.mk.injEq] at h
      obtain ⟨rfl, rfl⟩ := h
      have e0 := lit_spec (ev_spec hT hx h3)
      refine ⟨mu, .tuple #[], w, .inl ?_, Ext.refl _, hR, hnil, Keeps.refl _⟩
      have hrun : (Builtin.clear_ #[t] ty #[ev1 tmps y]).run P w = .ok (.tuple #[]) w := by
        rw [e0]
        simp [Builtin.clear_, run_underlying hu]
      simp [execOp, resolve, invoke, builtin, hrun]
    · simp at h
  · simp at hf

theorem evH_ok (hR : R mu H.blks w) (hT : RelT (ctx mu H.blks w) T tmps) {op : O} {v : V} {oH : Option Heap} (h : evH T H op = some (v, oH)) {o : Oper} (hf : fitO P op o.op = true) : OkH P mu H tmps w o v oH := by
  have rest : (match allocB T op with | some (f, b) => some (f H.blks.length, some (H.push b)) | none => none) = some (v, oH) → OkH P mu H tmps w o v oH := by
    intro h
    split at h <;> simp only [Option.some.injEq, reduceCtorEq, Prod.mk.injEq] at h
    rename_i f b hab
    obtain ⟨rfl, rfl⟩ := h
    exact h_allocB hR hT hab hf
  cases op with
  | load n x => exact h_load hR hT h hf
  | store n a x => exact h_store hR hT h hf
  | look kc z x i ok => exact h_look hR hT h hf
  | mapUpd kc m k v => exact h_mapUpd hR hT h hf
  | app m size bytes x y => exact h_app hR hT h hf
  | clr size z x => exact h_clr hR hT h hf
  | len c x => cases c with
    | map => exact h_lenM hR hT h hf
    | str => exact rest h
    | slice => exact rest h
  | _ => exact rest h

theorem okH_of_okP {o : Oper} {v : V} (hR : R mu H.blks w) (h : OkP P mu H.blks tmps w o v) : OkH P mu H tmps w o v none := by
  obtain ⟨u, w', h1, h2, h3⟩ := h
  exact ⟨mu, u, w', h1, h2.ext, h2.R hR, h3, Keeps.refl _⟩

end

/-! ### what a call leaves behind -/
mutual
theorem Rep.cut {C C' : Ctx} {n : Nat} (hmu : ∀ (i k : Nat), i < n → C.mu[i]? = some k → C'.mu[i]? = some k) (hw : C'.w = C.w) (hm : ∀ k off, C'.mt k off → C.mt k off) : ∀ (v : V) (u : Value), Rep C v u → v.closed n = true → Rep C' v u
  | .lit v, u, hr, _ => by simpa only [Rep] using hr
  | .fn f fs cs, u, hr, hc => by
    simp only [Rep, V.closed, Bool.and_eq_true] at hr hc ⊢
    obtain ⟨a, b, e, h1, h2⟩ := hr
    exact ⟨a, b, e, Reps.cut hmu hw hm fs _ h1 hc.1, Reps.cut hmu hw hm cs _ h2 hc.2⟩
  | .imm cs, u, hr, hc => by
    simp only [Rep, V.closed] at hr hc ⊢
    obtain ⟨k, off, e, h1⟩ := hr
    exact ⟨k, off, e, RepAt.cut hmu hw hm k off cs h1 hc⟩
  | .ref b off, u, hr, hc => by
    simp only [Rep, V.closed, decide_eq_true_eq] at hr hc ⊢
    obtain ⟨k, e, h1⟩ := hr
    exact ⟨k, hmu _ _ hc e, h1⟩
  | .sl cs len own, u, hr, hc => by
    simp only [Rep, V.closed, Bool.and_eq_true] at hr hc ⊢
    obtain ⟨a, cap, e, h0, h1, h2, h3⟩ := hr
    refine ⟨a, cap, e, h0, h1, RepAt.cut hmu hw hm a.block a.off cs h2 hc.2, ?_⟩
    cases own with
    | none => trivial
    | cap c => exact h3
    | tok t esz =>
      obtain ⟨g1, g2, g3, g4⟩ := h3
      simp only [decide_eq_true_eq] at hc
      exact ⟨g1, hmu _ _ hc.1 g2, g3, by rw [hw]; exact g4⟩
  | .msl b off len esz cap, u, hr, hc => by
    simp only [Rep, V.closed, decide_eq_true_eq] at hr hc ⊢
    obtain ⟨k, cap', e, h1⟩ := hr
    exact ⟨k, cap', hmu _ _ hc e, by rw [hw]; exact h1⟩
  | .map b, u, hr, hc => by
    simp only [Rep, V.closed, decide_eq_true_eq] at hr hc ⊢
    obtain ⟨k, e, h1⟩ := hr
    exact ⟨k, hmu _ _ hc e, h1⟩
  | .iface t v, u, hr, hc => by
    simp only [Rep, V.closed] at hr hc ⊢
    obtain ⟨x, e, h1⟩ := hr
    exact ⟨x, e, Rep.cut hmu hw hm v x h1 hc⟩
  | .agg cs, u, hr, hc => by
    simp only [Rep, V.closed] at hr hc ⊢
    obtain ⟨us, e, h1, h2⟩ := hr
    exact ⟨us, e, Reps.cut hmu hw hm cs _ h1 hc, h2⟩
  | .tup vs, u, hr, hc => by
    simp only [Rep, V.closed] at hr hc ⊢
    obtain ⟨us, e, h1⟩ := hr
    exact ⟨us, e, Reps.cut hmu hw hm vs _ h1 hc⟩
theorem RepAt.cut {C C' : Ctx} {n : Nat} (hmu : ∀ (i k : Nat), i < n → C.mu[i]? = some k → C'.mu[i]? = some k) (hw : C'.w = C.w) (hm : ∀ k off, C'.mt k off → C.mt k off) (k : Nat) : ∀ (off : Nat) (vs : List V), RepAt C k off vs → V.closedL n vs = true → RepAt C' k off vs
  | _, [], _, _ => by simp only [RepAt]
  | off, v :: vs, hr, hc => by
    simp only [RepAt, V.closedL, Bool.and_eq_true] at hr hc ⊢
    obtain ⟨⟨u, h1, h2, h3, h4⟩, h5⟩ := hr
    exact ⟨⟨u, by rw [hw]; exact h1, fun h => h2 (hm _ _ h), Rep.cut hmu hw hm v u h3 hc.1, h4⟩, RepAt.cut hmu hw hm k (off + 1) vs h5 hc.2⟩
theorem Reps.cut {C C' : Ctx} {n : Nat} (hmu : ∀ (i k : Nat), i < n → C.mu[i]? = some k → C'.mu[i]? = some k) (hw : C'.w = C.w) (hm : ∀ k off, C'.mt k off → C.mt k off) : ∀ (vs : List V) (us : List Value), Reps C vs us → V.closedL n vs = true → Reps C' vs us
  | [], us, hr, _ => by simpa only [Reps] using hr
  | v :: vs, us, hr, hc => by
    simp only [Reps, V.closedL, Bool.and_eq_true] at hr hc ⊢
    obtain ⟨u, us', e, h1, h2⟩ := hr
    exact ⟨u, us', e, Rep.cut hmu hw hm v u h1 hc.1, Reps.cut hmu hw hm vs us' h2 hc.2⟩
end

theorem Reps2.cut {C C' : Ctx} {n : Nat} (hmu : ∀ (i k : Nat), i < n → C.mu[i]? = some k → C'.mu[i]? = some k) (hw : C'.w = C.w) (hm : ∀ k off, C'.mt k off → C.mt k off) : ∀ (vs : List (V × V)) (us : List MapEntry), Reps2 C vs us → closedEs n vs = true → Reps2 C' vs us
  | [], us, hr, _ => by simpa only [Reps2] using hr
  | v :: vs, us, hr, hc => by
    simp only [Reps2, closedEs, Bool.and_eq_true] at hr hc ⊢
    obtain ⟨u, us', e, h1, h2, h3⟩ := hr
    exact ⟨u, us', e, Rep.cut hmu hw hm _ _ h1 hc.1.1, Rep.cut hmu hw hm _ _ h2 hc.1.2, Reps2.cut hmu hw hm vs us' h3 hc.2⟩

mutual
theorem Rep.closed {C : Ctx} : ∀ (v : V) (u : Value), Rep C v u → v.closed C.mu.length = true
  | .lit v, u, _ => by simp [V.closed]
  | .fn f fs cs, u, hr => by
    simp only [Rep, V.closed, Bool.and_eq_true] at hr ⊢
    obtain ⟨a, b, e, h1, h2⟩ := hr
    exact ⟨Reps.closed fs _ h1, Reps.closed cs _ h2⟩
  | .imm cs, u, hr => by
    simp only [Rep, V.closed] at hr ⊢
    obtain ⟨k, off, e, h1⟩ := hr
    exact RepAt.closed k off cs h1
  | .ref b off, u, hr => by
    simp only [Rep, V.closed, decide_eq_true_eq] at hr ⊢
    obtain ⟨k, e, h1⟩ := hr
    exact (List.getElem?_eq_some_iff.1 e).1
  | .sl cs len own, u, hr => by
    simp only [Rep, V.closed, Bool.and_eq_true] at hr ⊢
    obtain ⟨a, cap, e, h0, h1, h2, h3⟩ := hr
    refine ⟨?_, RepAt.closed a.block a.off cs h2⟩
    cases own with
    | tok t esz =>
      simp only [decide_eq_true_eq]
      exact (List.getElem?_eq_some_iff.1 h3.2.1).1
    | _ => rfl
  | .msl b off len esz cap, u, hr => by
    simp only [Rep, V.closed, decide_eq_true_eq] at hr ⊢
    obtain ⟨k, cap', e, h1⟩ := hr
    exact (List.getElem?_eq_some_iff.1 e).1
  | .map b, u, hr => by
    simp only [Rep, V.closed, decide_eq_true_eq] at hr ⊢
    obtain ⟨k, e, h1⟩ := hr
    exact (List.getElem?_eq_some_iff.1 e).1
  | .iface t v, u, hr => by
    simp only [Rep, V.closed] at hr ⊢
    obtain ⟨x, e, h1⟩ := hr
    exact Rep.closed v x h1
  | .agg cs, u, hr => by
    simp only [Rep, V.closed] at hr ⊢
    obtain ⟨us, e, h1, h2⟩ := hr
    exact Reps.closed cs _ h1
  | .tup vs, u, hr => by
    simp only [Rep, V.closed] at hr ⊢
    obtain ⟨us, e, h1⟩ := hr
    exact Reps.closed vs _ h1
theorem RepAt.closed {C : Ctx} (k : Nat) : ∀ (off : Nat) (vs : List V), RepAt C k off vs → V.closedL C.mu.length vs = true
  | _, [], _ => by simp [V.closedL]
  | off, v :: vs, hr => by
    simp only [RepAt, V.closedL, Bool.and_eq_true] at hr ⊢
    obtain ⟨⟨u, h1, h2, h3, h4⟩, h5⟩ := hr
    exact ⟨Rep.closed v u h3, RepAt.closed k (off + 1) vs h5⟩
theorem Reps.closed {C : Ctx} : ∀ (vs : List V) (us : List Value), Reps C vs us → V.closedL C.mu.length vs = true
  | [], us, _ => by simp [V.closedL]
  | v :: vs, us, hr => by
    simp only [Reps, V.closedL, Bool.and_eq_true] at hr ⊢
    obtain ⟨u, us', e, h1, h2⟩ := hr
    exact ⟨Rep.closed v u h1, Reps.closed vs us' h2⟩
end
theorem Reps2.closed {C : Ctx} : ∀ (vs : List (V × V)) (us : List MapEntry), Reps2 C vs us → closedEs C.mu.length vs = true
  | [], us, _ => by simp [closedEs]
  | v :: vs, us, hr => by
    simp only [Reps2, closedEs, Bool.and_eq_true] at hr ⊢
    obtain ⟨u, us', e, h1, h2, h3⟩ := hr
    exact ⟨⟨Rep.closed _ _ h1, Rep.closed _ _ h2⟩, Reps2.closed vs us' h3⟩

theorem BlkOk.closed {C : Ctx} {k : Nat} {b : ABlk} (h : BlkOk C k b) : b.closed C.mu.length = true := by
  cases b with
  | dead => rfl
  | cells cs => obtain ⟨_, _, _, _, _, _, h, _⟩ := h; exact Reps.closed _ _ h
  | row n => rfl
  | map es => obtain ⟨_, _, _, h⟩ := h; exact Reps2.closed _ _ h

theorem BlkOk.cut {C C' : Ctx} {n : Nat} (hmu : ∀ (i k : Nat), i < n → C.mu[i]? = some k → C'.mu[i]? = some k) (hw : C'.w = C.w) (hm : ∀ k off, C'.mt k off → C.mt k off) {k : Nat} {b : ABlk} (h : BlkOk C k b) (hc : b.closed n = true) : BlkOk C' k b := by
  cases b with
  | dead => trivial
  | cells cs =>
    obtain ⟨arr, e, fz, h1, h2, h3, h4, h5⟩ := h
    exact ⟨arr, e, fz, by rw [hw]; exact h1, h2, h3, Reps.cut hmu hw hm _ _ h4 hc, h5⟩
  | row n =>
    obtain ⟨arr, e, fz, h1, h2, h3⟩ := h
    exact ⟨arr, e, fz, by rw [hw]; exact h1, h2, h3⟩
  | map es =>
    obtain ⟨arr, c, h1, h2⟩ := h
    exact ⟨arr, c, by rw [hw]; exact h1, Reps2.cut hmu hw hm _ _ h2 hc⟩

theorem mem_addN {i : Nat} {l : List Nat} : ∀ {a : List Nat}, i ∈ addN a l ↔ i ∈ a ∨ i ∈ l
  | [] => by simp [addN]
  | b :: a => by
    simp only [addN, mem_insN, List.mem_cons, mem_addN (a := a)]
    constructor
    · rintro (h | h | h)
      · exact .inl (.inl h)
      · exact .inl (.inr h)
      · exact .inr h
    · rintro ((h | h) | h)
      · exact .inl h
      · exact .inr (.inl h)
      · exact .inr (.inr h)

/-- what a call's end says is right of a call's whole -/
theorem finish_ok {keep : Bool} {H H' : Heap} {mu mu' : List Nat} {w w' : World} (hR : R mu H.blks w) (hE : Ext (ctx mu H.blks w) (ctx mu' H'.blks w')) (hR' : R mu' H'.blks w') (hK : Keeps ⟨H.blks, []⟩ H')
    {v r : V} {u : Value} {oH : Option Heap} (hr : Rep (ctx mu' H'.blks w') v u) (h : finish keep H v H' = (r, oH)) :
    ∃ mu2, Ext (ctx mu H.blks w) (ctx mu2 (oH.getD H).blks w') ∧ R mu2 (oH.getD H).blks w' ∧ Rep (ctx mu2 (oH.getD H).blks w') r u ∧ Keeps H (oH.getD H) := by
  have hr2 : Rep (ctx mu' H'.blks w') (if keep then v else v.strip) u := by
    cases keep with
    | true => exact hr
    | false => exact hr.strip
  have hlen := hK.len
  simp only at hlen
  have hpre : ∀ (i k : Nat), i < H.blks.length → mu'[i]? = some k → mu[i]? = some k := by
    intro i k hi hk
    have hi' : i < mu.length := by rw [hR.len]; exact hi
    have := hE.mu i _ (List.getElem?_eq_getElem hi')
    simp only [ctx] at this
    rw [this] at hk
    rw [List.getElem?_eq_getElem hi']
    exact hk
  unfold finish at h
  simp only at h
  generalize (if keep = true then v else v.strip) = r0 at h hr2
  split at h
  · rename_i hc
    simp only [Bool.and_eq_true, List.all_eq_true] at hc
    obtain ⟨hc1, hc2⟩ := hc
    simp only [Prod.mk.injEq] at h
    obtain ⟨rfl, h⟩ := h
    have hsub : ∀ {k off : Nat}, Owned mu (H'.blks.take H.blks.length) k off → Owned mu' H'.blks k off := by
      rintro k off ⟨i, b, h1, h2, h3⟩
      rw [List.getElem?_take] at h1
      split at h1
      · rename_i hi
        exact ⟨i, b, h1, hE.mu i k h2, h3⟩
      · simp at h1
    have hclosed : ∀ (i k : Nat) (b : ABlk), i < H.blks.length → H'.blks[i]? = some b → mu[i]? = some k → b.closed H.blks.length = true := by
      intro i k b hi hb hk
      by_cases hw : i ∈ H'.wr
      · have := hc2 i (by simp [hw, hi])
        rw [hb] at this
        exact this
      · have := hK.blk i hi hw
        simp only at this
        rw [this] at hb
        have := (hR.ok i k b hb hk).closed
        simp only [ctx, hR.len] at this
        exact this
    have hE2 : Ext (ctx mu H.blks w) (ctx mu (H'.blks.take H.blks.length) w') :=
      ⟨fun _ _ h => h, hE.size, fun k off u hc hm => let ⟨a, b⟩ := hE.cell k off u hc hm; ⟨a, fun ho => b (hsub ho)⟩, hE.shape,
       fun k hk hm => let ⟨a, b⟩ := hE.block k hk hm; ⟨a, fun off ho => b off (hsub ho)⟩, hE.os, hE.tape, hE.output⟩
    have hR2 : R mu (H'.blks.take H.blks.length) w' := by
      refine ⟨by rw [hR.len]; simp; omega, ?_, ?_⟩
      · intro i j k a b h1 h2 la lb h3 h4
        rw [List.getElem?_take] at h1 h2
        split at h1 <;> try simp only [reduceCtorEq] at h1
        split at h2 <;> try simp only [reduceCtorEq] at h2
        exact hR'.inj i j k a b h1 h2 la lb (hE.mu i k h3) (hE.mu j k h4)
      · intro i k b h1 h2
        rw [List.getElem?_take] at h1
        split at h1 <;> try simp only [reduceCtorEq] at h1
        rename_i hi
        exact BlkOk.cut (C := ctx mu' H'.blks w') (C' := ctx mu (H'.blks.take H.blks.length) w') (n := H.blks.length) hpre rfl (fun _ _ ho => hsub ho) (hR'.ok i k b h1 (hE.mu i k h2)) (hclosed i k b hi h1 h2)
    have hr3 : Rep (ctx mu (H'.blks.take H.blks.length) w') r0 u := Rep.cut (C := ctx mu' H'.blks w') (C' := ctx mu (H'.blks.take H.blks.length) w') (n := H.blks.length) hpre rfl (fun _ _ ho => hsub ho) _ _ hr2 hc1
    split at h
    · rename_i hemp
      subst h
      have hnone : ∀ i, i < H.blks.length → i ∉ H'.wr := by
        intro i hi hw
        have hmem : i ∈ H'.wr.filter (fun b => decide (b < H.blks.length)) := by simp [hw, hi]
        rw [List.isEmpty_iff] at hemp
        rw [hemp] at hmem
        simp at hmem
      have heq : H'.blks.take H.blks.length = H.blks := by
        apply List.ext_getElem?
        intro i
        rw [List.getElem?_take]
        split
        · rename_i hi
          exact hK.blk i hi (hnone i hi)
        · rename_i hi
          rw [List.getElem?_eq_none (by omega)]
      rw [heq] at hE2 hR2 hr3
      exact ⟨mu, hE2, hR2, hr3, Keeps.refl _⟩
    · subst h
      refine ⟨mu, hE2, hR2, hr3, ⟨by simp; omega, fun i hi => mem_addN.2 (.inr hi), fun i hi hn => ?_⟩⟩
      simp only [Option.getD_some] at hn ⊢
      rw [List.getElem?_take, if_pos hi]
      refine hK.blk i hi (fun hw => hn (mem_addN.2 (.inl ?_)))
      simp [hw, hi]
  · simp only [Prod.mk.injEq] at h
    obtain ⟨rfl, rfl⟩ := h
    refine ⟨mu', hE, hR', hr2, ⟨hlen, fun i hi => mem_addN.2 (.inr hi), fun i hi hn => ?_⟩⟩
    simp only [Option.getD_some] at hn ⊢
    refine hK.blk i hi (fun hw => hn (mem_addN.2 (.inl ?_)))
    simp [hw, hi]

end Go.Ev
