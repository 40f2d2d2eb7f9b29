/- What an evaluation leaves alone: blocks that it does not name as written.
   Conditions: the intrinsics do the same. -/
import Derived.Test.YtlliieplgdlldaaWa
namespace Go.Ev
set_option linter.unusedSimpArgs false
set_option linter.unusedVariables false

theorem keeps_app {H : Heap} {m : Bool} {size bytes : Nat} {x y v : V} {o : Option Heap} (h : appV H m size bytes x y = some (v, o)) : Keeps H (o.getD H) := by
  unfold appV at h
  split at h
  · cases h
  · rename_i new n hs
    split at h
    · split at h <;> first | (simp only [Option.some.injEq, Prod.mk.injEq] at h; obtain ⟨rfl, rfl⟩ := h; exact Keeps.refl _) | cases h
    · simp only at h
      have main : ∀ (cs : List V) (len : Nat) (H1 : Heap), Keeps H H1 → (if (len + n) * bytes ≤ 140737488355328 ∧ len + n ≤ 140737488355328 ∧ cs.length = len * size then
          if m then some (V.msl H1.blks.length 0 (len + n) size none, some (H1.push (.cells (cs ++ new))))
          else some (V.sl (cs ++ new.map V.strip1) (len + n) (.tok H1.blks.length size), some (H1.push (.row ((len + n) * size))))
        else none) = some (v, o) → Keeps H (o.getD H) := by
        intro cs len H1 hk h
        split at h
        · split at h <;> (simp only [Option.some.injEq, Prod.mk.injEq] at h; obtain ⟨rfl, rfl⟩ := h; exact hk.trans (Keeps.push _ _))
        · cases h
      split at h
      · exact main _ _ _ (Keeps.refl _) h
      · split at h
        · exact main _ _ _ (Keeps.refl _) h
        · cases h
      · split at h
        · split at h
          · exact main _ _ _ (Keeps.write _ _ _) h
          · cases h
        · split at h
          · rename_i hh
            exact absurd hh.2.2 (by simp)
          · cases h
      · split at h
        · split at h
          · exact main _ _ _ (Keeps.write _ _ _) h
          · cases h
        · cases h
      · cases h

theorem keeps_H {T : Tm} {H : Heap} {op : O} {v : V} {o : Option Heap} (h : evH T H op = some (v, o)) : Keeps H (o.getD H) := by
  cases op
  case app m size bytes x y =>
    simp only [evH] at h
    split at h
    · exact keeps_app h
    · cases h
  case len c x =>
    cases c <;> simp only [evH, allocB, reduceCtorEq] at h
    repeat' (split at h)
    all_goals first
      | (simp only [reduceCtorEq] at h; done)
      | (simp only [Option.some.injEq, Prod.mk.injEq] at h; obtain ⟨rfl, rfl⟩ := h; exact Keeps.refl _)
  all_goals
    simp only [evH] at h
    repeat' (split at h)
    all_goals first
      | (simp only [reduceCtorEq] at h; done)
      | (simp only [Option.some.injEq, Prod.mk.injEq] at h; obtain ⟨rfl, rfl⟩ := h; first | exact Keeps.refl _ | exact Keeps.write _ _ _ | exact Keeps.push _ _)

theorem keeps_frz {H H' : Heap} {v v' : V} (h : frzV H v = some (v', H')) : Keeps H H' := by
  unfold frzV at h
  repeat' (split at h)
  all_goals first
    | (simp only [reduceCtorEq] at h; done)
    | (simp only [Option.some.injEq, Prod.mk.injEq] at h; obtain ⟨rfl, rfl⟩ := h; first | exact Keeps.refl _ | exact Keeps.write _ _ _)

theorem keeps_new {H : Heap} (bs : List ABlk) : Keeps H ⟨H.blks ++ bs, H.wr⟩ :=
  ⟨by simp, fun _ h => h, fun i hi _ => by rw [List.getElem?_append_left hi]⟩

theorem keeps_finish {kt : Bool} {H0 H : Heap} {v r : V} {o : Option Heap} (hk : Keeps ⟨H0.blks, []⟩ H) (h : finish kt H0 v H = (r, o)) : Keeps H0 (o.getD H0) := by
  have hwr : ∀ i, i ∈ H0.wr → i ∈ addN (H.wr.filter fun b => decide (b < H0.blks.length)) H0.wr := fun i hi => mem_addN.2 (.inr hi)
  have hblk : ∀ (i : Nat), i < H0.blks.length → i ∉ addN (H.wr.filter fun b => decide (b < H0.blks.length)) H0.wr → H.blks[i]? = H0.blks[i]? := by
    intro i hi hn
    refine hk.blk i hi fun hw => hn (mem_addN.2 (.inl ?_))
    rw [List.mem_filter]
    exact ⟨hw, by simpa using hi⟩
  unfold finish at h
  generalize (if kt = true then v else v.strip) = r0 at h
  simp only at h
  split at h
  · simp only [Prod.mk.injEq] at h
    obtain ⟨_, rfl⟩ := h
    split
    · exact Keeps.refl _
    · refine ⟨?_, hwr, fun i hi hn => ?_⟩
      · have : H0.blks.length ≤ H.blks.length := hk.len
        simp [List.length_take]
        omega
      · simp only [Option.getD_some]
        rw [List.getElem?_take, if_pos hi]
        exact hblk i hi hn
  · simp only [Prod.mk.injEq] at h
    obtain ⟨_, rfl⟩ := h
    exact ⟨hk.len, hwr, hblk⟩

/-- the library functions that the evaluator takes whole keep what they do not name -/
def IntrKeeps (E : Env) : Prop := ∀ f g args H v o, E.intr f = some g → g args H = some (v, o) → Keeps H (o.getD H)

structure KeepsAt (E : Env) (n : Nat) : Prop where
  ins : ∀ i T H v o, evIns E n i T H = some (v, o) → Keeps H (o.getD H)
  reg : ∀ is T H T' H', evReg E n is T H = some (T', H') → Keeps H H'
  chain : ∀ j ch is T H T' H', evC E n j ch is T H = some (T', H') → Keeps H H'
  code : ∀ a T H x T' H', evCode E n a T H = some (x, T', H') → Keeps H H'
  call : ∀ f as H v o, evCall E n f as H = some (v, o) → Keeps H (o.getD H)

theorem keepsAt {E : Env} (hI : IntrKeeps E) : ∀ n, KeepsAt E n
  | 0 => by constructor <;> intros <;> simp_all [evIns, evReg, evC, evCode, evCall]
  | n + 1 => by
    have ih := keepsAt hI n
    constructor
    · intro i T H v o h
      simp only [evIns] at h
      split at h
      · simp only [Option.some.injEq, Prod.mk.injEq] at h
        obtain ⟨rfl, rfl⟩ := h
        exact Keeps.refl _
      · split at h
        · split at h
          · exact ih.call _ _ _ _ _ h
          · cases h
        · split at h
          · exact ih.call _ _ _ _ _ h
          · cases h
        · exact keeps_H h
    · intro is T H T' H' h
      cases is with
      | nil =>
        simp only [evReg, Option.some.injEq, Prod.mk.injEq] at h
        obtain ⟨rfl, rfl⟩ := h
        exact Keeps.refl _
      | cons i is =>
        simp only [evReg] at h
        split at h
        · cases h
        · exact ih.reg _ _ _ _ _ h
        · split at h
          · cases h
          · exact ih.reg _ _ _ _ _ h
          · rename_i v H1 hv
            exact (ih.ins _ _ _ _ _ hv).trans (ih.reg _ _ _ _ _ h)
    · intro j ch is T H T' H' h
      cases is with
      | nil =>
        simp only [evC, Option.some.injEq, Prod.mk.injEq] at h
        obtain ⟨rfl, rfl⟩ := h
        exact Keeps.refl _
      | cons i is =>
        simp only [evC] at h
        split at h
        · cases h
        · exact ih.chain _ _ _ _ _ _ _ h
        · split at h
          · split at h
            · cases h
            · exact ih.chain _ _ _ _ _ _ _ h
            · rename_i v H1 hv
              exact (ih.ins _ _ _ _ _ hv).trans (ih.chain _ _ _ _ _ _ _ h)
          · split at h
            · exact ih.chain _ _ _ _ _ _ _ h
            · cases h
    · intro a T H x T' H' h
      cases a with
      | skip =>
        simp only [evCode, Option.some.injEq, Prod.mk.injEq] at h
        obtain ⟨rfl, rfl, rfl⟩ := h
        exact Keeps.refl _
      | exit id =>
        simp only [evCode, Option.some.injEq, Prod.mk.injEq] at h
        obtain ⟨rfl, rfl, rfl⟩ := h
        exact Keeps.refl _
      | ret =>
        simp only [evCode, Option.some.injEq, Prod.mk.injEq] at h
        obtain ⟨rfl, rfl, rfl⟩ := h
        exact Keeps.refl _
      | reg ops keep =>
        simp only [evCode] at h
        split at h
        · rename_i T1 H1 hr
          simp only [Option.some.injEq, Prod.mk.injEq] at h
          obtain ⟨rfl, rfl, rfl⟩ := h
          exact ih.reg _ _ _ _ _ hr
        · cases h
      | draw ops head imp keep =>
        simp only [evCode] at h
        split at h
        · split at h
          · rename_i T1 H1 hr
            simp only [Option.some.injEq, Prod.mk.injEq] at h
            obtain ⟨rfl, rfl, rfl⟩ := h
            exact ih.reg _ _ _ _ _ hr
          · cases h
        · cases h
      | drawA ops head al keep =>
        simp only [evCode] at h
        split at h
        · split at h
          · rename_i T1 H1 hr
            simp only [Option.some.injEq, Prod.mk.injEq] at h
            obtain ⟨rfl, rfl, rfl⟩ := h
            exact (keeps_new _).trans (ih.reg _ _ _ _ _ hr)
          · cases h
        · cases h
      | drawC ops ch keep =>
        simp only [evCode] at h
        split at h
        · rename_i T1 H1 hr
          simp only [Option.some.injEq, Prod.mk.injEq] at h
          obtain ⟨rfl, rfl, rfl⟩ := h
          exact ih.chain _ _ _ _ _ _ _ hr
        · cases h
      | seq a b =>
        simp only [evCode] at h
        split at h
        · rename_i T1 H1 hr
          exact (ih.code _ _ _ _ _ _ hr).trans (ih.code _ _ _ _ _ _ h)
        · exact ih.code _ _ _ _ _ _ h
      | cond c a b =>
        simp only [evCode] at h
        split at h
        · exact ih.code _ _ _ _ _ _ h
        · exact ih.code _ _ _ _ _ _ h
        · cases h
      | block id a =>
        simp only [evCode] at h
        split at h
        · rename_i j T1 H1 hr
          split at h <;>
          · simp only [Option.some.injEq, Prod.mk.injEq] at h
            obtain ⟨rfl, rfl, rfl⟩ := h
            exact ih.code _ _ _ _ _ _ hr
        · exact ih.code _ _ _ _ _ _ h
      | loop a =>
        simp only [evCode] at h
        split at h
        · rename_i T1 H1 hr
          exact (ih.code _ _ _ _ _ _ hr).trans (ih.code _ _ _ _ _ _ h)
        · exact ih.code _ _ _ _ _ _ h
      | scope a =>
        simp only [evCode] at h
        exact ih.code _ _ _ _ _ _ h
      | frz t a =>
        simp only [evCode] at h
        split at h
        · split at h
          · rename_i v' H1 hz
            exact (keeps_frz hz).trans (ih.code _ _ _ _ _ _ h)
          · cases h
        · cases h
      | frzA a t =>
        simp only [evCode] at h
        split at h
        · rename_i T1 H1 hr
          split at h
          · split at h
            · rename_i v' H2 hz
              simp only [Option.some.injEq, Prod.mk.injEq] at h
              obtain ⟨rfl, rfl, rfl⟩ := h
              exact (ih.code _ _ _ _ _ _ hr).trans (keeps_frz hz)
            · cases h
          · cases h
        · exact ih.code _ _ _ _ _ _ h
    · intro f as H v o h
      simp only [evCall] at h
      split at h
      · rename_i g hg
        exact hI _ _ _ _ _ _ hg h
      · split at h
        · cases h
        · split at h
          · split at h
            · rename_i x T' H' hr
              have hk := ih.code _ _ _ _ _ _ hr
              split at h
              · cases h
              · split at h
                · simp only [Option.some.injEq] at h
                  exact keeps_finish hk h
                · cases h
            · cases h
          · cases h

theorem W_keeps {E : Env} (hI : IntrKeeps E) {a : I} {T : Tm} {H : Heap} {Q : Ex → Tm → Heap → Prop} (h : W E a T H fun x T' H' => Keeps H H' → Q x T' H') : W E a T H Q := by
  obtain ⟨n, x, T', H', h1, h2⟩ := h
  exact ⟨n, x, T', H', h1, h2 ((keepsAt hI n).code _ _ _ _ _ _ h1)⟩
theorem WC_keeps {E : Env} (hI : IntrKeeps E) {f : FuncId} {as : List V} {H : Heap} {Q : V → Option Heap → Prop} (h : WC E f as H fun v o => Keeps H (o.getD H) → Q v o) : WC E f as H Q := by
  obtain ⟨n, v, o, h1, h2⟩ := h
  exact ⟨n, v, o, h1, h2 ((keepsAt hI n).call _ _ _ _ _ h1)⟩
/-- the end of a call: what was made is dropped where nothing leads to it -/
def finK (kt : Bool) (H0 : Heap) (Q : V → Option Heap → Prop) (v : V) (H : Heap) : Prop := Keeps ⟨H0.blks, []⟩ H → finQ kt H0 Q v H
def retK (res : List ResV) (kt : Bool) (H0 : Heap) (Q : V → Option Heap → Prop) : Ex → Tm → Heap → Prop
  | .exit _, _, _ => False
  | .normal, T, H => Opt (resVs T H res) fun vs => finK kt H0 Q (one vs) H
  | .ret, T, H => Opt (resVs T H res) fun vs => finK kt H0 Q (one vs) H
theorem WC_fnK {E : Env} (hI : IntrKeeps E) {f : FuncId} {p nt : Nat} {body : I} {res : List ResV} {kt : Bool} {args : List V} {H : Heap} {Q : V → Option Heap → Prop} (hi : E.intr f = none) (hf : E.fn f = some ⟨p, nt, body, res, kt⟩)
    (hl : args.length = p) (h : W E body (Tm.init 0 args) ⟨H.blks, []⟩ (retK res kt H Q)) : WC E f args H Q := by
  rw [WC_fn hi hf]
  refine ⟨hl, W_keeps hI (h.mono fun x T' H' q hk => ?_)⟩
  cases x with
  | exit id => exact q
  | normal => obtain ⟨vs, h1, h2⟩ := q; exact ⟨vs, h1, h2 hk⟩
  | ret => obtain ⟨vs, h1, h2⟩ := q; exact ⟨vs, h1, h2 hk⟩
theorem retK_normal {res : List ResV} {kt : Bool} {H0 : Heap} {Q : V → Option Heap → Prop} {T : Tm} {H : Heap} : retK res kt H0 Q .normal T H ↔ Opt (resVs T H res) fun vs => finK kt H0 Q (one vs) H := ⟨id, id⟩
theorem retK_ret {res : List ResV} {kt : Bool} {H0 : Heap} {Q : V → Option Heap → Prop} {T : Tm} {H : Heap} : retK res kt H0 Q .ret T H ↔ Opt (resVs T H res) fun vs => finK kt H0 Q (one vs) H := ⟨id, id⟩
@[congr] theorem finK_congr {kt : Bool} {H0 : Heap} {Q : V → Option Heap → Prop} {v v' : V} {H H' : Heap} {b : Prop} (h : v = v') (h' : H = H') (_ : Still True = b) : finK kt H0 Q v H = finK kt H0 Q v' H' := by rw [h, h']
attribute [go_sem] retK_normal retK_ret

theorem fin_any {kt : Bool} {H0 H : Heap} {v : V} {Q : V → Option Heap → Prop}
    (q : Keeps ⟨H0.blks, []⟩ H → ∀ (o : Option Heap) (D : List ABlk) (wr' : List Nat), o.getD H0 = ⟨D, wr'⟩ → (∀ b, b < H0.blks.length → D[b]? = H.blks[b]?) →
      (D = H.blks ∨ (D.length = H0.blks.length ∧ (if kt then v else v.strip).closed H0.blks.length = true ∧ ∀ (b : Nat) (x : ABlk), b ∈ H.wr → D[b]? = some x → x.closed H0.blks.length = true)) →
      (∀ b, b ∈ wr' → b ∈ H0.wr ∨ b ∈ H.wr) → Q (if kt then v else v.strip) o) : finK kt H0 Q v H := by
  intro hk
  have q := q hk
  unfold finQ finish
  simp only
  generalize (if kt = true then v else v.strip) = r at q ⊢
  split
  · rename_i hc
    rw [Bool.and_eq_true, List.all_eq_true] at hc
    obtain ⟨hc1, hc2⟩ := hc
    have hlen : (H.blks.take H0.blks.length).length = H0.blks.length := by have := hk.len; simp only at this; simp; omega
    have hc3 : ∀ (b : Nat) (x : ABlk), b ∈ H.wr → (H.blks.take H0.blks.length)[b]? = some x → x.closed H0.blks.length = true := by
      intro b x hb hx
      rw [List.getElem?_take] at hx
      split at hx
      · rename_i hlt
        have := hc2 b (by rw [List.mem_filter]; exact ⟨hb, by simpa using hlt⟩)
        rw [hx] at this
        exact this
      · cases hx
    split
    · rename_i he
      rw [List.isEmpty_iff, List.filter_eq_nil_iff] at he
      have e : H.blks.take H0.blks.length = H0.blks := by
        apply List.ext_getElem?
        intro i
        rw [List.getElem?_take]
        split
        · rename_i hi
          exact hk.blk i hi fun hw => he i hw (by simpa using hi)
        · rename_i hi
          rw [List.getElem?_eq_none (by omega)]
      rw [e] at hlen hc3
      refine q none H0.blks H0.wr rfl (fun b hb => ?_) (.inr ⟨rfl, hc1, hc3⟩) (fun b hb => .inl hb)
      rw [← e, List.getElem?_take, if_pos hb]
    · refine q _ (H.blks.take H0.blks.length) _ rfl (fun b hb => by rw [List.getElem?_take, if_pos hb]) (.inr ⟨hlen, hc1, hc3⟩) (fun b hb => ?_)
      rcases mem_addN.1 hb with h | h
      · exact .inr (List.mem_filter.1 h).1
      · exact .inl h
  · refine q _ H.blks _ rfl (fun _ _ => rfl) (.inl rfl) (fun b hb => ?_)
    rcases mem_addN.1 hb with h | h
    · exact .inr (List.mem_filter.1 h).1
    · exact .inl h
end Go.Ev
