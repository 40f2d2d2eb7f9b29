/- The library's slices.Sort at []int as the evaluator takes it, and why that is right.
   Conditions: none; plain lemmas. -/
import Derived.Test.YtlliieplgdlldaaEvQ
import Derived.Test.YtlliieplgdlldaaSrt
namespace Go.Ev
open Go.Sort Go.Proofs

def litInts : List V → Option (List Int)
  | [] => some []
  | .lit (.int .i64 n) :: r => (litInts r).map (n :: ·)
  | _ => none
def insI (n : Int) : List Int → List Int
  | [] => [n]
  | m :: r => if n ≤ m then n :: m :: r else m :: insI n r
def sortI : List Int → List Int
  | [] => []
  | n :: r => insI n (sortI r)
def intV (n : Int) : V := .lit (.int .i64 n)
def sortG : List V → Heap → Option (V × Option Heap)
  | [.msl b off len 1 _], H => match H.blks[b]? with
    | some (.cells cs) => if off + len ≤ cs.length ∧ len < 4611686018427387904 then match litInts ((cs.drop off).take len) with
        | some l => some (.tup [], some (H.write b (.cells (splice cs off ((sortI l).map intV)))))
        | none => none
      else none
    | _ => none
  | [.lit (.slice .none 0 0)], _ => some (.tup [], none)
  | [.sl [] 0 _], _ => some (.tup [], none)
  | _, _ => none

theorem insI_append {a : Int} : ∀ {l1 l2 : List Int}, (∀ b, b ∈ l1 → ¬ a ≤ b) → (∀ b, b ∈ l2 → a ≤ b) → insI a (l1 ++ l2) = l1 ++ a :: l2
  | [], [], _, _ => rfl
  | [], b :: l2, _, h => by simp [insI, h b (by simp)]
  | b :: l1, l2, h, h' => by
    simp only [List.cons_append, insI]
    rw [if_neg (h b (by simp)), insI_append (fun c hc => h c (by simp [hc])) h']

theorem sortI_eq : ∀ l : List Int, sortI l = l.mergeSort fun x y => decide (x ≤ y)
  | [] => by simp [sortI]
  | a :: l => by
    have htr : ∀ (a b c : Int), decide (a ≤ b) = true → decide (b ≤ c) = true → decide (a ≤ c) = true := by
      intro a b c h1 h2
      simp only [decide_eq_true_eq] at *
      omega
    have hto : ∀ (a b : Int), (decide (a ≤ b) || decide (b ≤ a)) = true := by
      intro a b
      simp only [Bool.or_eq_true, decide_eq_true_eq]
      omega
    obtain ⟨l1, l2, h1, h2, h3⟩ := List.mergeSort_cons (le := fun x y : Int => decide (x ≤ y)) htr hto a l
    simp only [sortI]
    rw [sortI_eq l, h1, h2]
    have hs := List.pairwise_mergeSort (le := fun x y : Int => decide (x ≤ y)) htr hto (a :: l)
    rw [h1] at hs
    refine insI_append (fun b hb => ?_) (fun b hb => ?_)
    · have := h3 b hb
      simpa using this
    · rw [List.pairwise_append] at hs
      have := (List.pairwise_cons.1 hs.2.1).1 b hb
      simpa using this

theorem litInts_spec : ∀ {vs : List V} {l : List Int}, litInts vs = some l → vs = l.map intV
  | [], l, h => by simp [litInts] at h; subst h; rfl
  | v :: vs, l, h => by
    unfold litInts at h
    split at h
    · rename_i e; cases e
    · rename_i n e
      cases e
      cases hl : litInts vs with
      | none => rw [hl] at h; simp at h
      | some l' =>
        rw [hl] at h
        simp only [Option.map_some, Option.some.injEq] at h
        subst h
        rw [litInts_spec hl]
        rfl
    · simp at h

theorem litInts_map : ∀ (l : List Int), litInts (l.map intV) = some l
  | [] => rfl
  | n :: l => by
    simp only [List.map_cons]
    show (litInts (l.map intV)).map (n :: ·) = _
    rw [litInts_map l]
    rfl

section
variable {P : Program}

theorem putCells_get {off : Nat} {d : Array Int} {arr : Array Value} (j : Nat) : (putCells (Value.int .i64) off d arr)[j]? = if off ≤ j ∧ j < off + d.size then (if j < arr.size then some (Value.int .i64 d[j - off]!) else none) else arr[j]? := by
  simp only [putCells, Array.getElem?_mapIdx]
  by_cases hj : j < arr.size
  · rw [Array.getElem?_eq_getElem hj]
    simp only [Option.map_some, hj, if_true]
    split <;> rfl
  · rw [Array.getElem?_eq_none (by omega)]
    simp [hj]

/-- what the contract of a sort says, at one program and number -/
structure SortC (P : Program) (f : FuncId) : Prop where
  good : goodFn P f = true
  some : ∀ (blk off cap : Nat) (zs : List Int) (w : World), Holds (Value.int .i64) w blk off zs.toArray → blk < w.heap.size → zs.length < 4611686018427387904 →
    Calls P f #[.slice (some ⟨blk, off, none⟩) zs.length cap] w fun e w' => e = .returned (.tuple #[]) ∧ ∃ n os, w' = grow (putRow (Value.int .i64) (Sort.ahead w n) blk off (zs.mergeSort fun x y => decide (x ≤ y)).toArray) os
  none : ∀ (p : Option Addr) (cap : Nat) (w : World), Calls P f #[.slice p 0 cap] w fun e w' => e = .returned (.tuple #[]) ∧ w' = w

theorem sort_ok {f : FuncId} (hS : SortC P f) {args : List V} {H : Heap} {v : V} {oH : Option Heap} (h : sortG args H = some (v, oH)) : CallOk P f args H v oH := by
  have hnil : ∀ C : Ctx, Rep C (.tup []) (.tuple #[]) := by
    intro C
    simp only [Rep]
    exact ⟨#[], rfl, by simp [Reps]⟩
  intro mu w us cs hR hr
  have close : ∀ {w' : World} {H' : Heap}, (∃ fr, Comes P (lone (Frame.enter P f us.toArray .normal) cs w) (lone fr cs w') (.returned (.tuple #[])) ∧ fr.fn = f ∧ fr.leaving P w' (.returned (.tuple #[]))) →
      Ext (ctx mu H.blks w) (ctx mu H'.blks w') → R mu H'.blks w' → Keeps H H' →
      ∃ mu' w' u fr, Steps P (lone (Frame.enter P f us.toArray .normal) cs w) (lone fr cs w') ∧ fr.fn = f ∧ fr.kind = .normal ∧ fr.mode = .returning ∧ fr.defers = [] ∧ (∃ fn, P.funcs[f]? = Option.some fn ∧ (results fn fr.tmps).run P w' = .ok u w') ∧
        Ext (ctx mu H.blks w) (ctx mu' H'.blks w') ∧ R mu' H'.blks w' ∧ Rep (ctx mu' H'.blks w') (.tup []) u ∧ Keeps H H' := by
    rintro w' H' ⟨fr, h1, h2, h3⟩ hE hR' hK
    obtain ⟨hm, hd, hk, fn, hf, hrs⟩ := h3
    exact ⟨mu, w', _, fr, h1, h2, hk, hm, hd, ⟨fn, by rw [← h2]; exact hf, hrs⟩, hE, hR', hnil _, hK⟩
  have none_case : ∀ (p : Option Addr) (cap : Nat), us = [.slice p 0 cap] → ∃ fr, Comes P (lone (Frame.enter P f us.toArray .normal) cs w) (lone fr cs w) (.returned (.tuple #[])) ∧ fr.fn = f ∧ fr.leaving P w (.returned (.tuple #[])) := by
    rintro p cap rfl
    obtain ⟨e, w', fr, ⟨rfl, rfl⟩, h2, h3, h4⟩ := hS.none p cap w cs
    exact ⟨fr, h2, h3, h4⟩
  unfold sortG at h
  split at h
  · rename_i b off len cap
    split at h <;> try simp only [reduceCtorEq] at h
    rename_i cs' hb
    split at h <;> try simp only [reduceCtorEq] at h
    rename_i hc
    obtain ⟨hc1, hc2⟩ := hc
    split at h <;> simp only [Option.some.injEq, reduceCtorEq, Prod.mk.injEq] at h
    rename_i l hl
    obtain ⟨rfl, rfl⟩ := h
    simp only [Reps, Rep] at hr
    obtain ⟨u, us', rfl, ⟨k, cap', hk, rfl, hlen, _, et0, m0, hsh, hshm⟩, rfl⟩ := hr
    have hll : l.length = len := by
      have := congrArg List.length (litInts_spec hl)
      simp at this
      omega
    have hk' : mu[b]? = Option.some k := hk
    obtain ⟨arr, et, fz, a1, a2, a3, a4, a5⟩ := hR.ok b k _ hb hk'
    simp only [ctx] at a1
    have hkl : k < w.heap.size := (Array.getElem?_eq_some_iff.1 a1).1
    have hval : ∀ j, j < len → arr[off + j]? = Option.some (Value.int .i64 (l.getD j 0)) := by
      intro j hj
      have h1 : cs'[off + j]? = Option.some (intV (l.getD j 0)) := by
        have h2 : ((cs'.drop off).take len)[j]? = Option.some (intV (l.getD j 0)) := by
          rw [litInts_spec hl, List.getElem?_map, List.getElem?_eq_getElem (by omega)]
          simp [List.getD, List.getElem?_eq_getElem (show j < l.length by omega)]
        rw [List.getElem?_take_of_lt hj, List.getElem?_drop] at h2
        exact h2
      obtain ⟨u, h3, h4⟩ := Reps.get _ _ a4 h1
      rw [List.getElem?_take] at h3
      split at h3
      · simp only [intV, Rep] at h4
        rw [← Array.getElem?_toList, h3, h4.2]
      · simp at h3
    have hH : Holds (Value.int .i64) w k off l.toArray := by
      intro j hj
      have hj' : j < len := by simpa [hll] using hj
      have := hval j hj'
      refine ⟨?_, ?_⟩
      · rw [cell_of_heap a1, this]
        have hj2 : j < l.length := by omega
        simp [List.getD, List.getElem?_eq_getElem hj2, hj2]
      · obtain ⟨lo, hi⟩ := fz
        simp only at a2
        subst a2
        simp [World.frozen?, a1]
    obtain ⟨e, w', fr, ⟨rfl, n, os, hw'⟩, h2, h3, h4⟩ := hS.some k off cap' l w hH hkl (by omega) cs
    rw [hll] at h2
    generalize hd : (l.mergeSort fun x y => decide (x ≤ y)) = d at hw'
    have hdl : d.length = len := by rw [← hd, List.length_mergeSort, hll]
    have hsd : sortI l = d := by rw [sortI_eq, hd]
    have hheap : w'.heap = (w.heap.modify k (onCells (putCells (Value.int .i64) off d.toArray))) ++ os := by
      rw [hw']
      rfl
    have hget : ∀ j, j < w.heap.size → w'.heap[j]? = (w.heap.modify k (onCells (putCells (Value.int .i64) off d.toArray)))[j]? := by
      intro j hj
      rw [hheap, Array.getElem?_append_left (by simpa using hj)]
    have hself : w'.heap[k]? = Option.some (.cells (putCells (Value.int .i64) off d.toArray arr) et fz) := by
      rw [hget k hkl, Array.getElem?_modify, if_pos rfl, a1]
      rfl
    have hpsz : (putCells (Value.int .i64) off d.toArray arr).size = arr.size := by simp [putCells]
    have hT : Turned k w w' := by
      refine ⟨?_, fun j hj hne => ?_, ?_, by rw [hw']; rfl, by rw [hw']; rfl, by rw [hw']; rfl⟩
      · rw [hheap]
        simp
      · rw [hget j hj, Array.getElem?_modify, if_neg (Ne.symm hne)]
      · simp [World.shape?, hself, a1, hpsz]
    have hE := setExt (b' := .cells (splice cs' off ((sortI l).map intV))) hb hk' rfl hT (fun _ _ => trivial) (fun _ _ hn => absurd trivial hn)
    refine close (H' := H.write b (.cells (splice cs' off ((sortI l).map intV)))) ⟨fr, h2, h3, h4⟩ hE (setR hR hb hk' rfl hT (fun _ _ => trivial) (fun _ _ hn => absurd trivial hn) ?_) (Keeps.write _ _ _)
    have hsl : (splice cs' off ((sortI l).map intV)).length = cs'.length := by
      simp [splice, hsd, hdl]
      omega
    refine ⟨_, et, fz, hself, a2, by rw [hsl, hpsz]; exact a3, Reps.of_get (by simp [hsl, hpsz]; omega) (fun i v u hv hu => ?_), ?_⟩
    · rw [List.getElem?_take] at hu
      split at hu <;> try (simp at hu; done)
      rename_i hi
      rw [hsl] at hi
      rw [Array.getElem?_toList, putCells_get] at hu
      by_cases hin : off ≤ i ∧ i < off + len
      · rw [if_pos (by simpa [hdl] using hin), if_pos (by omega)] at hu
        have hv' : v = intV (d.getD (i - off) 0) := by
          simp only [splice, hsd] at hv
          rw [List.getElem?_append_left (by simp [hdl]; omega), List.getElem?_append_right (by simp; omega)] at hv
          have e0 : i - (cs'.take off).length = i - off := by simp; omega
          rw [e0, List.getElem?_map, List.getElem?_eq_getElem (by omega)] at hv
          simp at hv
          rw [← hv]
          simp [List.getD, List.getElem?_eq_getElem (show i - off < d.length by omega)]
        subst hv'
        have hu' : u = Value.int .i64 (d.getD (i - off) 0) := by
          have := Option.some.inj hu
          rw [← this]
          have hlt : i - off < d.length := by omega
          simp [List.getD, List.getElem?_eq_getElem hlt, hlt]
        subst hu'
        simp [intV, Rep, inert]
      · rw [if_neg (by simpa [hdl] using hin)] at hu
        have hv' : cs'[i]? = Option.some v := by
          simp only [splice, hsd] at hv
          by_cases hlt : i < off
          · rw [List.getElem?_append_left (by simp; omega), List.getElem?_append_left (by simp; omega), List.getElem?_take_of_lt hlt] at hv
            exact hv
          · rw [List.getElem?_append_right (by simp [hdl]; omega), List.getElem?_drop] at hv
            have e0 : off + (d.map intV).length + (i - (cs'.take off ++ d.map intV).length) = i := by simp [hdl]; omega
            rw [e0] at hv
            exact hv
        obtain ⟨u', h5, h6⟩ := Reps.get _ _ a4 hv'
        rw [List.getElem?_take_of_lt (by omega), Array.getElem?_toList, hu] at h5
        cases h5
        exact Rep.mono hE _ _ h6
    · simp only [splice]
      refine all_splice a5 ?_ _ _
      rw [List.all_eq_true]
      intro x hx
      rw [List.mem_map] at hx
      obtain ⟨y, _, rfl⟩ := hx
      rfl
  · simp only [Option.some.injEq, Prod.mk.injEq] at h
    obtain ⟨rfl, rfl⟩ := h
    simp only [Reps, Rep] at hr
    obtain ⟨u, us', rfl, ⟨_, rfl⟩, rfl⟩ := hr
    exact close (H' := H) (none_case _ _ rfl) (Ext.refl _) hR (Keeps.refl _)
  · simp only [Option.some.injEq, Prod.mk.injEq] at h
    obtain ⟨rfl, rfl⟩ := h
    simp only [Reps, Rep] at hr
    obtain ⟨u, us', rfl, ⟨_, _, rfl, _⟩, rfl⟩ := hr
    exact close (H' := H) (none_case _ _ rfl) (Ext.refl _) hR (Keeps.refl _)
  · simp at h

end

theorem Try.sortC : SortC Try.prog 35 := ⟨by kernel_rfl, fun blk off cap zs w hH hb hs => Try.slices_Sort_int blk off cap zs w hH hb hs, fun p cap w => Try.slices_Sort_int_none p cap w⟩
end Go.Ev
