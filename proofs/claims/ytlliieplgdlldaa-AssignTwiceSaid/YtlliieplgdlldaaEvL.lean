/- Maps.
   Conditions: none; plain lemmas. -/
import Derived.Test.YtlliieplgdlldaaEvK
namespace Go.Ev

section
variable {P : Program} {mu : List Nat} {H : Heap} {w : World} {T : Tm} {tmps : Array Value}

theorem h_lenM (hR : R mu H.blks w) (hT : RelT (ctx mu H.blks w) T tmps) {x : Opd} {v : V} {oH : Option Heap} (h : evH T H (.len .map x) = some (v, oH)) {o : Oper} (hf : fitO P (.len .map x) o.op = true) : OkH P mu H tmps w o v oH := by
  obtain ⟨dst, op, ty, pos, after, guard⟩ := o
  cases op <;> simp only [fitO, Bool.false_eq_true] at hf
  rename_i cl
  obtain ⟨callee, args, argTypes⟩ := cl
  cases callee <;> try simp only [fitO, Bool.false_eq_true] at hf
  rename_i bi
  cases bi <;> try simp only [fitO, Bool.false_eq_true] at hf
  split at hf
  · rename_i y t e1 e2
    have e1' : args = #[y] := by simpa using congrArg List.toArray e1
    have e2' : argTypes = #[t] := by simpa using congrArg List.toArray e2
    subst e1' e2'
    simp only [Bool.and_eq_true] at hf
    obtain ⟨h1, h2⟩ := hf
    simp only [lenClass] at h1
    split at h1 <;> try simp only [Bool.false_eq_true] at h1
    rename_i hu
    simp only [evH] at h
    split at h
    · rename_i b hx
      split at h <;> simp only [Option.some.injEq, reduceCtorEq, Prod.mk.injEq] at h
      rename_i es hb
      obtain ⟨rfl, rfl⟩ := h
      have hr := ev_spec hT hx h2
      simp only [Rep, ctx] at hr
      obtain ⟨k, hk, e⟩ := hr
      obtain ⟨arr, clock, a1, a2⟩ := hR.ok b k _ hb hk
      simp only [ctx] at a1
      have hl : ∀ (C : Ctx) (vs : List (V × V)) (us : List MapEntry), Reps2 C vs us → us.length = vs.length := by
        intro C vs
        induction vs with
        | nil => intro us h; simp only [Reps2] at h; simp [h]
        | cons v vs ih => intro us h; simp only [Reps2] at h; obtain ⟨u, us', rfl, _, _, h⟩ := h; simp [ih _ h]
      have hsz := hl _ _ _ a2
      simp at hsz
      have hget : (getObj k).run P w = .ok (.map arr clock) w := by simp [getObj, Sem.run, a1]
      refine ⟨mu, .int .i64 es.length, w, .inl ?_, Ext.refl _, hR, rep_lit rfl, Keeps.refl _⟩
      simp [execOp, resolve, invoke, builtin, Builtin.len_, e, run_underlying hu, goInt, hget, hsz]
    · simp at h
  · simp at hf

theorem keyIs_check {t : TypeId} {kc : LitC} (h : keyIs P t kc = true) {u : Value} (b : Bool) (n : Nat) (w : World) (hi : inert u = true) : (Instr.checkKey b (n + 1) t u).run P w = .ok () w := by
  cases hu : P.underlying t with
  | none => cases kc <;> simp [keyIs, hu] at h
  | some d => cases kc <;> cases d <;> simp [keyIs, hu] at h <;> simp [Instr.checkKey, run_underlying hu]

theorem bytes_ext {a b : ByteArray} (h : a.data.toList = b.data.toList) : a = b := by
  obtain ⟨a⟩ := a
  obtain ⟨b⟩ := b
  congr 1
  exact Array.ext' h
theorem beq_bytes (a b : ByteArray) : (a == b) = (a.data.toList == b.data.toList) := by
  show (a.data == b.data) = _
  rw [Bool.eq_iff_iff, beq_iff_eq, beq_iff_eq, Array.toList_inj]

theorem same_of_litEq {t : TypeId} {kc : LitC} {d : TypeDesc} (h : keyIs P t kc = true) (hd : P.underlying t = some d) {C : Ctx} {k e : V} {uk ue : Value} (hk : Rep C k uk) (he : Rep C e ue) {b : Bool} (hl : litEq kc k e = some b) :
    Instr.sameNow d uk ue = some b := by
  unfold litEq at hl
  split at hl <;> try (simp at hl; done)
  · split at hl <;> simp only [Option.some.injEq, reduceCtorEq] at hl
    rename_i hc
    obtain ⟨rfl, rfl⟩ := hc
    have := lit_spec hk; have := lit_spec he
    subst_vars
    cases d <;> simp [keyIs, hd] at h
    simp [Instr.sameNow]
  · split at hl <;> simp only [Option.some.injEq, reduceCtorEq] at hl
    rename_i hc
    subst hc
    have := lit_spec hk; have := lit_spec he
    subst_vars
    cases d <;> simp [keyIs, hd] at h
    simp [Instr.sameNow, beq_bytes]
  · split at hl <;> simp only [Option.some.injEq, reduceCtorEq] at hl
    rename_i hc
    subst hc
    have := lit_spec hk; have := lit_spec he
    subst_vars
    cases d <;> simp [keyIs, hd] at h
    simp [Instr.sameNow]

theorem findNow_of_findE {t : TypeId} {kc : LitC} {d : TypeDesc} (h : keyIs P t kc = true) (hd : P.underlying t = some d) {C : Ctx} {k : V} {uk : Value} (hk : Rep C k uk) :
    ∀ {es : List (V × V)} {us : List MapEntry} (i : Nat), Reps2 C es us → ∀ {r : Option V}, findE kc k es = some r →
      (r = none ∧ Instr.findNow d uk us i = some none) ∨ ∃ v j u, r = some v ∧ Instr.findNow d uk us i = some (some (j, u)) ∧ Rep C v u
  | [], us, i, hr, r, hf => by
    simp only [Reps2] at hr
    subst hr
    simp only [findE, Option.some.injEq] at hf
    exact .inl ⟨hf.symm, rfl⟩
  | e :: es, us, i, hr, r, hf => by
    simp only [Reps2] at hr
    obtain ⟨u, us', rfl, h1, h2, h3⟩ := hr
    simp only [findE] at hf
    split at hf
    · rename_i hl
      simp only [Option.some.injEq] at hf
      subst hf
      have := same_of_litEq h hd hk h1 hl
      exact .inr ⟨e.2, i, u.val, rfl, by simp [Instr.findNow, this], h2⟩
    · rename_i hl
      have := same_of_litEq h hd hk h1 hl
      simp only [Instr.findNow, this]
      exact findNow_of_findE h hd hk (i + 1) h3 hf
    · simp at hf

theorem isLit_spec {C : Ctx} {v : V} {u : Value} (h : isLit v = true) (hr : Rep C v u) : inert u = true := by
  cases v <;> simp [isLit] at h
  simp only [Rep] at hr
  obtain ⟨h1, rfl⟩ := hr
  exact h1

theorem zeroV_spec {t : TypeId} {z : V} (h : zeroVIs P t z = true) (C : Ctx) (w : World) : ∃ u, (zeroValue t).run P w = .ok u w ∧ Rep C z u := by
  unfold zeroVIs at h
  split at h
  · rename_i i hi
    split at h
    · rename_i v hv
      exact ⟨v, by simp [zeroValue, typeInfo, hi, hv], fitV_spec C _ _ h⟩
    · simp at h
  · simp at h

theorem h_look (hR : R mu H.blks w) (hT : RelT (ctx mu H.blks w) T tmps) {kc : LitC} {z : V} {x i : Opd} {ok : Bool} {v : V} {oH : Option Heap} (h : evH T H (.look kc z x i ok) = some (v, oH)) {o : Oper} (hf : fitO P (.look kc z x i ok) o.op = true) : OkH P mu H tmps w o v oH := by
  obtain ⟨dst, op, ty, pos, after, guard⟩ := o
  cases op <;> simp only [fitO, Bool.false_eq_true, Bool.and_eq_true, decide_eq_true_eq] at hf
  rename_i t y j ok'
  obtain ⟨⟨⟨h1, h2⟩, h3⟩, rfl⟩ := hf
  split at h1
  · rename_i kt et hu
    simp only [Bool.and_eq_true] at h1
    obtain ⟨hk, hz⟩ := h1
    obtain ⟨uz, hz1, hz2⟩ := zeroV_spec hz (ctx mu H.blks w) w
    obtain ⟨d, hd⟩ : ∃ d, P.underlying kt = some d := by
      cases hh : P.underlying kt with
      | none => cases kc <;> simp [keyIs, hh] at hk
      | some d => exact ⟨d, rfl⟩
    have hdep : (10000 : Nat) = 9999 + 1 := rfl
    simp only [evH] at h
    have fin : ∀ (v0 : V) (u0 : Value) (bb : Bool), Rep (ctx mu H.blks w) v0 u0 → Rep (ctx mu H.blks w) (if ok then V.tup [v0, .lit (.bool bb)] else v0) (if ok then Value.tuple #[u0, .bool bb] else u0) := by
      intro v0 u0 bb hr
      cases ok with
      | false => exact hr
      | true =>
        simp only [if_true, Rep]
        exact ⟨_, rfl, by simp [Reps, hr, Rep, inert]⟩
    split at h
    · rename_i l hx hi
      simp only [Option.some.injEq, Prod.mk.injEq] at h
      obtain ⟨rfl, rfl⟩ := h
      have ex := lit_spec (ev_spec hT hx h2)
      have hri := ev_spec hT hi h3
      have ei : inert (ev1 tmps j) = true := isLit_spec rfl hri
      refine ⟨mu, _, w, .inl ?_, Ext.refl _, hR, fin z uz false hz2, Keeps.refl _⟩
      simp only [execOp, Instr.lookup, ex, Sem.run_bind, run_underlying hu, Result.andThen_ok, Sem.run_pure, hdep, keyIs_check hk _ _ _ ei, Instr.findKey, run_underlying hd, Instr.findNow, hz1]
    · rename_i b kv hx hi
      split at h
      · rename_i es hb
        have hr := ev_spec hT hx h2
        simp only [Rep, ctx] at hr
        obtain ⟨k, hkk, e⟩ := hr
        obtain ⟨arr, clock, a1, a2⟩ := hR.ok b k _ hb hkk
        simp only [ctx] at a1
        have hget : (getObj k).run P w = .ok (.map arr clock) w := by simp [getObj, Sem.run, a1]
        have hri := ev_spec hT hi h3
        by_cases hlit : isLit kv = true
        · rw [if_pos hlit] at h
          have ei : inert (ev1 tmps j) = true := isLit_spec hlit hri
          split at h <;> simp only [Option.some.injEq, reduceCtorEq, Prod.mk.injEq] at h
          · rename_i v0 hfe
            obtain ⟨rfl, rfl⟩ := h
            rcases findNow_of_findE hk hd hri 0 a2 hfe with ⟨hn, _⟩ | ⟨v1, jj, u, hv1, hfn, hru⟩
            · simp at hn
            · simp only [Option.some.injEq] at hv1
              subst hv1
              refine ⟨mu, _, w, .inl ?_, Ext.refl _, hR, fin v0 u true hru, Keeps.refl _⟩
              simp only [execOp, Instr.lookup, e, Sem.run_bind, run_underlying hu, Result.andThen_ok, Sem.run_pure, hget, hdep, keyIs_check hk _ _ _ ei, Instr.findKey, run_underlying hd, hfn]
          · rename_i hfe
            obtain ⟨rfl, rfl⟩ := h
            rcases findNow_of_findE hk hd hri 0 a2 hfe with ⟨_, hfn⟩ | ⟨v1, jj, u, hv1, _⟩
            · refine ⟨mu, _, w, .inl ?_, Ext.refl _, hR, fin z uz false hz2, Keeps.refl _⟩
              simp only [execOp, Instr.lookup, e, Sem.run_bind, run_underlying hu, Result.andThen_ok, Sem.run_pure, hget, hdep, keyIs_check hk _ _ _ ei, Instr.findKey, run_underlying hd, hfn, hz1]
            · simp at hv1
        · rw [if_neg hlit] at h
          simp at h
      · simp at h
    · simp at h
  · simp at h1

theorem sameBits_lit {kc : LitC} {k e : V} {C : Ctx} {uk ue : Value} (hk : Rep C k uk) (he : Rep C e ue) (h : litEq kc k e = some true) (n : Nat) : Instr.sameBits n ue uk = true := by
  unfold litEq at h
  split at h <;> try (simp at h; done)
  · split at h <;> simp only [Option.some.injEq, reduceCtorEq] at h
    rename_i hc
    obtain ⟨_, rfl⟩ := hc
    have := lit_spec hk; have := lit_spec he
    subst_vars
    simp at h
    subst h
    cases n <;> simp [Instr.sameBits]
  · split at h <;> simp only [Option.some.injEq, reduceCtorEq] at h
    have := lit_spec hk; have := lit_spec he
    subst_vars
    have h' := bytes_ext (eq_of_beq h)
    subst h'
    cases n <;> simp [Instr.sameBits, beq_bytes]
  · split at h <;> simp only [Option.some.injEq, reduceCtorEq] at h
    have := lit_spec hk; have := lit_spec he
    subst_vars
    simp at h
    subst h
    cases n <;> simp [Instr.sameBits]

/-- what updE says: the entry that has the key is written, or a new one comes behind -/
theorem findNow_of_updE {t : TypeId} {kc : LitC} {d : TypeDesc} (h : keyIs P t kc = true) (hd : P.underlying t = some d) {C : Ctx} {k v : V} {uk uv : Value} (hk : Rep C k uk) (hv : Rep C v uv) :
    ∀ {es es' : List (V × V)} {us : List MapEntry} (i : Nat), Reps2 C es us → updE kc k v es = some es' →
      (Instr.findNow d uk us i = some none ∧ ∀ c, Reps2 C es' (us ++ [{ key := uk, val := uv, born := c }])) ∨
      ∃ (j : Nat) (u : Value) (old : MapEntry), Instr.findNow d uk us i = some (some (i + j, u)) ∧ us[j]? = some old ∧ (∀ n, Instr.sameBits n old.key uk = true) ∧ Reps2 C es' (us.set j { old with key := uk, val := uv })
  | [], es', us, i, hr, hf => by
    simp only [Reps2] at hr
    subst hr
    simp only [updE, Option.some.injEq] at hf
    subst hf
    refine .inl ⟨rfl, fun c => ?_⟩
    simp only [Reps2, List.nil_append]
    exact ⟨_, [], rfl, hk, hv, rfl⟩
  | e :: es, es', us, i, hr, hf => by
    simp only [Reps2] at hr
    obtain ⟨u, us', rfl, h1, h2, h3⟩ := hr
    simp only [updE] at hf
    split at hf
    · rename_i hl
      simp only [Option.some.injEq] at hf
      subst hf
      have := same_of_litEq h hd hk h1 hl
      refine .inr ⟨0, u.val, u, by simp [Instr.findNow, this], by simp, fun n => sameBits_lit hk h1 hl n, ?_⟩
      simp only [List.set_cons_zero, Reps2]
      exact ⟨_, us', rfl, hk, hv, h3⟩
    · rename_i hl
      have hs := same_of_litEq h hd hk h1 hl
      split at hf <;> simp only [Option.some.injEq, reduceCtorEq] at hf
      rename_i es2 hu
      subst hf
      rcases findNow_of_updE h hd hk hv (i + 1) h3 hu with ⟨g1, g2⟩ | ⟨j, u0, old, g1, g2, g3, g4⟩
      · refine .inl ⟨by simp [Instr.findNow, hs, g1], fun c => ?_⟩
        simp only [List.cons_append, Reps2]
        exact ⟨u, _, rfl, h1, h2, g2 c⟩
      · refine .inr ⟨j + 1, u0, old, by simp [Instr.findNow, hs, g1]; omega, by simpa using g2, g3, ?_⟩
        simp only [List.set_cons_succ, Reps2]
        exact ⟨u, _, rfl, h1, h2, g4⟩
    · simp at hf

theorem run_mapUpd (hR : R mu H.blks w) {kt et t : TypeId} {kc : LitC} (hu : P.underlying t = some (.map kt et)) (hk : keyIs P kt kc = true) {b k : Nat} {es es' : List (V × V)} (hb : H.blks[b]? = some (.map es)) (hkk : mu[b]? = some k)
    {kv v : V} {uk uv : Value} (hlit : isLit kv = true) (hrk : Rep (ctx mu H.blks w) kv uk) (hrv : Rep (ctx mu H.blks w) v uv) (hupd : updE kc kv v es = some es') :
    ∃ w', (Instr.mapUpdate t (.map (some k)) uk uv).run P w = .ok () w' ∧ Ext (ctx mu H.blks w) (ctx mu (H.blks.set b (.map es')) w') ∧ R mu (H.blks.set b (.map es')) w' := by
  obtain ⟨d, hd⟩ : ∃ d, P.underlying kt = some d := by
    cases hh : P.underlying kt with
    | none => cases kc <;> simp [keyIs, hh] at hk
    | some d => exact ⟨d, rfl⟩
  obtain ⟨arr, clock, a1, a2⟩ := hR.ok b k _ hb hkk
  simp only [ctx] at a1
  have hget : (getObj k).run P w = .ok (.map arr clock) w := by simp [getObj, Sem.run, a1]
  have hset : ∀ (es2 : Array MapEntry) (c2 : Nat), (setObj k (.map es2 c2)).run P w = .ok () { w with heap := w.heap.setIfInBounds k (.map es2 c2) } := by
    intro es2 c2
    simp [setObj, Sem.run, a1]
  have hklt := (Array.getElem?_eq_some_iff.1 a1).1
  have ei := isLit_spec hlit hrk
  have hdep : (10000 : Nat) = 9999 + 1 := rfl
  have done : ∀ (es2 : Array MapEntry) (c2 : Nat), Reps2 (ctx mu H.blks w) es' es2.toList →
      Ext (ctx mu H.blks w) (ctx mu (H.blks.set b (.map es')) { w with heap := w.heap.setIfInBounds k (.map es2 c2) }) ∧ R mu (H.blks.set b (.map es')) { w with heap := w.heap.setIfInBounds k (.map es2 c2) } := by
    intro es2 c2 hr2
    have hT' := Turned.obj a1 es2 c2
    have hcell : ∀ off u, ¬ (ABlk.map es).owns off → w.cell? ⟨k, off, none⟩ = some u → ({ w with heap := w.heap.setIfInBounds k (.map es2 c2) } : World).cell? ⟨k, off, none⟩ = some u := fun _ _ hn => absurd trivial hn
    have hE : Ext (ctx mu H.blks w) (ctx mu (H.blks.set b (.map es')) _) := setExt hb hkk rfl hT' (fun _ _ => trivial) hcell
    refine ⟨hE, setR hR hb hkk rfl hT' (fun _ _ => trivial) hcell ⟨es2, c2, ?_, Reps2.mono hE _ _ hr2⟩⟩
    simp only [ctx]
    rw [Array.getElem?_setIfInBounds_self_of_lt hklt]
  rcases findNow_of_updE hk hd hrk hrv 0 a2 hupd with ⟨g1, g2⟩ | ⟨j, u0, old, g1, g2, g3, g4⟩
  · obtain ⟨e1, e2⟩ := done (arr.push { key := uk, val := uv, born := clock }) (clock + 1) (by simpa using g2 clock)
    refine ⟨_, ?_, e1, e2⟩
    simp only [Instr.mapUpdate, Sem.run_bind, run_underlying hu, Result.andThen_ok, hget, hdep, keyIs_check hk _ _ _ ei, Instr.findKey, run_underlying hd, g1, Sem.run_pure, hset]
  · have hj : j < arr.size := by simpa using (List.getElem?_eq_some_iff.1 g2).1
    have hold : arr[j]? = some old := by simpa using g2
    have hmod : arr.modify j (fun e => { e with key := uk, val := uv }) = arr.set j { old with key := uk, val := uv } hj := by
      apply Array.ext (by simp)
      intro n h1 h2
      rw [Array.getElem_modify, Array.getElem_set]
      split
      · rename_i e
        subst e
        have : arr[j] = old := by
          have := (Array.getElem?_eq_some_iff.1 hold).2
          exact this
        simp [this]
      · rfl
    obtain ⟨e1, e2⟩ := done (arr.set j { old with key := uk, val := uv } hj) clock (by simpa using g4)
    refine ⟨_, ?_, e1, e2⟩
    simp only [Nat.zero_add] at g1
    simp only [Instr.mapUpdate, Sem.run_bind, run_underlying hu, Result.andThen_ok, hget, hdep, keyIs_check hk _ _ _ ei, Instr.findKey, run_underlying hd, g1, Sem.run_pure, hold, Option.map_some, Option.getD_some, Instr.keyThatStays]
    rw [← hdep, g3 10000]
    simp only [if_true, Sem.run_pure, Result.andThen_ok, hset, hmod]

theorem h_mapUpd (hR : R mu H.blks w) (hT : RelT (ctx mu H.blks w) T tmps) {kc : LitC} {m k v : Opd} {r : V} {oH : Option Heap} (h : evH T H (.mapUpd kc m k v) = some (r, oH)) {o : Oper} (hf : fitO P (.mapUpd kc m k v) o.op = true) : OkH P mu H tmps w o r oH := by
  obtain ⟨dst, op, ty, pos, after, guard⟩ := o
  have main : ∀ (t : TypeId) (m' k' v' : Operand), (match P.underlying t with | some (.map kt _) => keyIs P kt kc | _ => false) = true → fitX m m' = true → fitX k k' = true → fitX v v' = true →
      ∃ mu' w', (Instr.mapUpdate t (ev1 tmps m') (ev1 tmps k') (ev1 tmps v')).run P w = .ok () w' ∧ r = .tup [] ∧ Ext (ctx mu H.blks w) (ctx mu' (oH.getD H).blks w') ∧ R mu' (oH.getD H).blks w' ∧ Keeps H (oH.getD H) := by
    intro t m' k' v' h1 h2 h3 h4
    split at h1
    · rename_i kt et hu
      simp only [evH] at h
      split at h
      · rename_i b kv vv hm hk hv
        split at h
        · rename_i es hb
          by_cases hlit : isLit kv = true
          · rw [if_pos hlit] at h
            split at h <;> simp only [Option.some.injEq, reduceCtorEq, Prod.mk.injEq] at h
            rename_i es' hupd
            obtain ⟨rfl, rfl⟩ := h
            have hr := ev_spec hT hm h2
            simp only [Rep, ctx] at hr
            obtain ⟨kk, hkk, e⟩ := hr
            obtain ⟨w', g1, g2, g3⟩ := run_mapUpd (P := P) hR hu h1 hb hkk hlit (ev_spec hT hk h3) (ev_spec hT hv h4).strip2 hupd
            exact ⟨mu, w', by rw [e]; exact g1, rfl, g2, g3, Keeps.write _ _ _⟩
          · rw [if_neg hlit] at h
            simp at h
        · simp at h
      · simp at h
    · simp at h1
  cases op <;> simp only [fitO, Bool.false_eq_true, Bool.and_eq_true] at hf
  · obtain ⟨⟨⟨h1, h2⟩, h3⟩, h4⟩ := hf
    obtain ⟨mu', w', g1, rfl, g2, g3, g4⟩ := main _ _ _ _ h1 h2 h3 h4
    refine ⟨mu', undef, w', .inr ⟨by simp [execOp, g1], rfl⟩, g2, g3, ?_, g4⟩
    simp only [Rep]
    exact ⟨#[], rfl, by simp [Reps]⟩
  · obtain ⟨⟨⟨h1, h2⟩, h3⟩, h4⟩ := hf
    obtain ⟨mu', w', g1, rfl, g2, g3, g4⟩ := main _ _ _ _ h1 h2 h3 h4
    refine ⟨mu', undef, w', .inr ⟨by simp [execOp, g1], rfl⟩, g2, g3, ?_, g4⟩
    simp only [Rep]
    exact ⟨#[], rfl, by simp [Reps]⟩

end
end Go.Ev
