/- What the functions of law 46 answer, by the evaluator: put within assign.Registers.
   Conditions: those that each theorem names. -/
import Derived.Test.YtlliieplgdlldaaCm
namespace Go.Proofs.Ytlliieplgdlldaa
open Go Go.Ev
set_option linter.unusedSimpArgs false
set_option linter.unusedVariables false
set_option maxRecDepth 10000

def tO (f : FunD) (n : Nat) : V := .imm [.msl n 0 f.varl.length 1 (some f.varl.length)]
def putV (f : FunD) (n : Nat) : V := .fn 12 [] [.imm (funV f), tO f n]
def regV (f : FunD) (n : Nat) : V := .fn 14 [] [.imm (funV f), .imm [putV f n], .ref (n + 3) 0]
theorem fnPut {f : FunD} {n : Nat} : fnOf (putV f n) = some (12, [], [.imm (funV f), tO f n]) := rfl
theorem fnReg {f : FunD} {n : Nat} : fnOf (regV f n) = some (14, [], [.imm (funV f), .imm [putV f n], .ref (n + 3) 0]) := rfl

structure Rg (f : FunD) (n : Nat) (ext : List ABlk) (o : List Int) : Prop where
  len : 4 ≤ ext.length
  out : ext[0]? = some (.cells (o.flatMap I1))
  visit : ext[3]? = some (.cells [regV f n])
  ol : o.length = f.varl.length
theorem Rg.more {f : FunD} {n : Nat} {ext : List ABlk} {o : List Int} (h : Rg f n ext o) (e : List ABlk) : Rg f n (ext ++ e) o := by
  have := h.len
  exact ⟨by simp; omega, by rw [List.getElem?_append_left (by omega)]; exact h.out, by rw [List.getElem?_append_left (by omega)]; exact h.visit, h.ol⟩
theorem Rg.set {f : FunD} {n : Nat} {ext : List ABlk} {o o' : List Int} (h : Rg f n ext o) (hl : o'.length = o.length) : Rg f n (ext.set 0 (.cells (o'.flatMap I1))) o' := by
  have := h.len
  exact ⟨by simpa using h.len, by rw [List.getElem?_set_self (by omega)], by rw [List.getElem?_set_ne (by decide)]; exact h.visit, hl.trans h.ol⟩

theorem rg_fin {f : FunD} {B ext ext2 : List ABlk} {wr wr2 : List Nat} {o o' : List Int} {kt : Bool} {v : V} {Q : V → Option Heap → Prop} (h : Rg f B.length ext o) (h2 : Rg f B.length ext2 o') (hw : New B.length wr) (hw2 : New B.length wr2)
    (q : ∀ (r : Option Heap) (ext' : List ABlk) (wr' : List Nat), r.getD ⟨B ++ ext, wr⟩ = ⟨B ++ ext', wr'⟩ → New B.length wr' → Rg f B.length ext' o' → Q (if kt then v else v.strip) r) : finK kt ⟨B ++ ext, wr⟩ Q v ⟨B ++ ext2, wr2⟩ := by
  refine fin_any fun hk r D wr' ho hD hcase hwr => ?_
  have hkl : B.length + ext.length ≤ B.length + ext2.length := by simpa using hk.len
  have hDB : D = B ++ D.drop B.length := by
    have : D.take B.length = B := by
      apply List.ext_getElem?
      intro i
      rw [List.getElem?_take]
      split
      · rename_i hi
        rw [hD i (by simp; omega), List.getElem?_append_left hi]
      · rename_i hi
        rw [List.getElem?_eq_none (by omega)]
    have e := List.take_append_drop B.length D
    rw [this] at e
    exact e.symm
  have hE : ∀ i, i < ext.length → (D.drop B.length)[i]? = ext2[i]? := by
    intro i hi
    rw [List.getElem?_drop, hD _ (by simp; omega), get_app]
  have hl := h.len
  have hlen' : ext.length ≤ (D.drop B.length).length := by
    rcases hcase with rfl | ⟨hlen, _⟩
    · simp; omega
    · simp [hlen]
  refine q r (D.drop B.length) wr' (by rw [ho, ← hDB]) (fun b hb => ?_) ⟨by omega, by rw [hE 0 (by omega)]; exact h2.out, by rw [hE 3 (by omega)]; exact h2.visit, h2.ol⟩
  rcases hwr b hb with h | h
  · exact hw b h
  · exact hw2 b h

/-- the register of a variable, -1 if there is none -/
def og (o : List Int) (x : Int) : Int := (o[x.toNat]?).getD (-1)
theorem og_get {f : FunD} {o : List Int} (hl : o.length = f.varl.length) {x : Int} (hx : InV f x) : o[x.toNat]? = some (og o x) := by
  have : x.toNat < o.length := by have := hx.1; have := hx.2; omega
  simp [og, this]
theorem og_set {f : FunD} {o : List Int} (hl : o.length = f.varl.length) {x y r : Int} (hx : InV f x) (hy : InV f y) : og (o.set x.toNat r) y = if y = x then r else og o y := by
  have h1 : x.toNat < o.length := by have := hx.1; have := hx.2; omega
  simp only [og]
  by_cases e : y = x
  · subst e
    simp [h1]
  · have : x.toNat ≠ y.toNat := by have := hx.1; have := hy.1; omega
    rw [List.getElem?_set_ne this, if_neg e]

/-- what put leaves behind: the variables b have registers, which no other of them and nothing of l has -/
structure Put (f : FunD) (b : List Int) (l : Int → Prop) (o o' : List Int) : Prop where
  len : o'.length = f.varl.length
  same : ∀ x, InV f x → x ∉ b → og o' x = og o x
  rng : ∀ x, x ∈ b → 0 ≤ og o' x ∧ og o' x < 16
  live : ∀ x y, x ∈ b → l y → y ∉ b → 0 ≤ og o y → og o' x ≠ og o y
  dist : ∀ x y, x ∈ b → y ∈ b → x ≠ y → og o' x ≠ og o' y

structure Bz where
  ext : List ABlk
  wr : List Nat
  bz : List Bool
  o : List Int

theorem put_ok {f : FunD} {t u : Tr} (hf : FewD f) (hw : Well f t) (hu : t.Has u) {B ext : List ABlk} {wr : List Nat} {o : List Int} {vb : V} {b : List Int} (h : Rg f B.length ext o) (hwr : New B.length wr) (hvb : IsSl I1 vb b) (hbl : b.length ≤ 1000) (hb : ∀ x, x ∈ b → InV f x) (hbn : b.Nodup)
    (hlv : ∀ x, u.Live x → InV f x) (ho : ∀ x, InV f x → og o x < 16) (hob : ∀ x, x ∈ b → og o x < 0) :
    WC env46 12 [vb, intV u.pos, .imm (funV f), tO f B.length] ⟨B ++ ext, wr⟩ fun r ro => ∃ (c : Bool) (ext' : List ABlk) (wr' : List Nat) (o' : List Int), r = boolV c ∧ ro.getD ⟨B ++ ext, wr⟩ = ⟨B ++ ext', wr'⟩ ∧ New B.length wr' ∧ Rg f B.length ext' o' ∧ (c = true → Put f b u.Live o o') := by
  refine WC_fnK keeps46 rfl rfl rfl ?_
  have h0 := h
  have hel := h.len
  simp only [c12, r12_0, r12_1, r12_2, tO, go_sem, ↓reduceIte, Nat.reduceEqDiff, Nat.reduceAdd, Nat.reduceLeDiff, Nat.reduceBEq, fun7]
  refine (at_ok hf hw hu _).mono ?_
  rintro r ro ⟨rfl, vl, l, rfl, hl, hlm, hll⟩
  have hrp : List.replicate 16 (V.lit (.bool false)) = (List.replicate 16 false).map boolV := rfl
  simp only [go_sem, ↓reduceIte, Nat.reduceEqDiff, Nat.reduceAdd, Nat.reduceLeDiff, Nat.reduceBEq, r12_3, b12_11, hl.is.len, hrp]
  refine W_for l.length (fun k (s : Bz) => [(0, vb), (3, tO f B.length), (7, .ref (B.length + ext.length) 0), (21, vl), (22, .lit (.int .i64 l.length)), (23, .lit (.int .i64 k))])
    (fun _ s => ⟨B ++ (ext ++ [.cells (s.bz.map boolV)]), s.wr⟩) (fun k s => s.bz.length = 16 ∧ New B.length s.wr ∧ ∀ x, x ∈ l.take k → 0 ≤ og o x → s.bz[(og o x).toNat]? = some true) ?_
    ⟨[], [], List.replicate 16 false, []⟩ ⟨rfl, New_nil.2 trivial, by simp⟩ rfl rfl
  rintro k ⟨_, wr1, bz, _⟩ hk ⟨i1, i2, i3⟩
  simp only at i1 i2 i3
  have hout : cellsAt (ext ++ [.cells (bz.map boolV)]) 0 = some (o.flatMap I1) := cellsAt_of (by rw [List.getElem?_append_left (by omega)]; exact h.out)
  rcases Nat.lt_or_ge k l.length with hlt | hge
  · have hx := hlv _ ((hlm _).1 (List.getElem_mem hlt))
    have hx2 : 0 ≤ l[k] ∧ l[k] < (f.varl.length : Int) := hx
    have hg : (o.flatMap I1)[l[k].toNat]? = some (.lit (.int .i64 (og o l[k]))) := by rw [I1_get, og_get h.ol hx]; rfl
    have hr := ho _ hx
    by_cases hp : og o l[k] ≥ 0
    · have hp2 : 0 ≤ og o l[k] ∧ og o l[k] < ((16 : Nat) : Int) := by omega
      have hbl2 : (og o l[k]).toNat < bz.length := by omega
      have hbl3 : (og o l[k]).toNat + 1 ≤ (bz.map boolV).length := by simp; omega
      simp (disch := omega) only [l12_10, r12_4, r12_5, r12_6, r12_7, b12_8, r12_9, tO, go_sem, ↓reduceIte, Nat.reduceEqDiff, Nat.reduceAdd, Nat.reduceLeDiff, Nat.reduceBEq, hlt, hl.is.iAddrN I1_len k hlt, drop_lt hlt, I1, i64_in, hx2, hout, hg, hp, hp2, hbl3, bmap_splice hbl2]
      refine ⟨hlt, ⟨[], _, bz.set (og o l[k]).toNat true, []⟩, ⟨by simpa using i1, New_insN.2 ⟨by omega, i2⟩, fun x hx3 hx4 => ?_⟩, rfl, rfl⟩
      simp only
      rw [List.getElem?_set]
      split
      · rfl
      · rename_i e
        rw [List.take_succ_eq_append_getElem hlt] at hx3
        rcases List.mem_append.1 hx3 with hx3 | hx3
        · exact i3 x hx3 hx4
        · rw [List.mem_singleton] at hx3
          subst hx3
          exact absurd rfl e
    · simp (disch := omega) only [l12_10, r12_4, r12_5, r12_6, b12_8, r12_9, tO, go_sem, ↓reduceIte, Nat.reduceEqDiff, Nat.reduceAdd, Nat.reduceLeDiff, Nat.reduceBEq, hlt, hl.is.iAddrN I1_len k hlt, drop_lt hlt, I1, i64_in, hx2, hout, hg, hp]
      refine ⟨hlt, ⟨[], wr1, bz, []⟩, ⟨i1, i2, fun x hx3 hx4 => ?_⟩, rfl, rfl⟩
      rw [List.take_succ_eq_append_getElem hlt] at hx3
      rcases List.mem_append.1 hx3 with hx3 | hx3
      · exact i3 x hx3 hx4
      · rw [List.mem_singleton] at hx3
        subst hx3
        omega
  · rw [List.take_of_length_le hge] at i3
    simp only [l12_10, r12_4, r12_12, b12_28, go_sem, ↓reduceIte, Nat.reduceEqDiff, Nat.reduceAdd, Nat.reduceLeDiff, Nat.reduceBEq, Nat.not_lt.2 hge, hvb.len]
    refine W_for b.length (fun k (s : Bz) => [(3, tO f B.length), (7, .ref (B.length + ext.length) 0), (38, vb), (39, .lit (.int .i64 b.length)), (40, .lit (.int .i64 k))])
      (fun _ s => ⟨B ++ (s.ext ++ [.cells (s.bz.map boolV)]), s.wr⟩)
      (fun k s => s.ext.length = ext.length ∧ Rg f B.length s.ext s.o ∧ s.bz.length = 16 ∧ New B.length s.wr ∧ (∀ x, InV f x → x ∉ b.take k → og s.o x = og o x) ∧ (∀ x, x ∈ b.take k → (0 ≤ og s.o x ∧ og s.o x < 16) ∧ s.bz[(og s.o x).toNat]? = some true) ∧
        (∀ y, u.Live y → 0 ≤ og o y → s.bz[(og o y).toNat]? = some true) ∧ (∀ x y, x ∈ b.take k → u.Live y → y ∉ b → 0 ≤ og o y → og s.o x ≠ og o y) ∧ (∀ x y, x ∈ b.take k → y ∈ b.take k → x ≠ y → og s.o x ≠ og s.o y)) ?_
      ⟨ext, wr1, bz, o⟩ ⟨rfl, h, i1, i2, fun _ _ _ => rfl, by simp, fun y hy => i3 y ((hlm y).2 hy), by simp, by simp⟩ rfl rfl
    clear i1 i2 i3 hout hk hge bz wr1 k
    rintro k ⟨ext1, wr1, bz, o1⟩ hk ⟨j1, j2, j3, j4, j5, j6, j7, j8, j9⟩
    simp only at j1 j2 j3 j4 j5 j6 j7 j8 j9
    rcases Nat.lt_or_ge k b.length with hlt | hge
    · have hx := hb _ (List.getElem_mem hlt)
      have hcb : ∀ X : List V, cellsAt (ext1 ++ [.cells X]) ext.length = some X := fun X => by rw [← j1, cellsAt_app0, cellsAt_zero]
      have hsb : ∀ (X : List V) (y : ABlk), (ext1 ++ [ABlk.cells X]).set ext.length y = ext1 ++ [y] := fun X y => by rw [← j1, set_app0]; rfl
      have hnk : b[k] ∉ b.take k := by
        intro hm
        have hn : (b.take k ++ b.drop k).Nodup := by rw [List.take_append_drop]; exact hbn
        exact (List.nodup_append.1 hn).2.2 _ hm _ (by rw [drop_lt hlt]; exact List.mem_cons_self) rfl
      simp (disch := omega) only [l12_27, r12_13, r12_14, r12_15, b12_25, b12_20, tO, go_sem, ↓reduceIte, Nat.reduceEqDiff, Nat.reduceAdd, Nat.reduceLeDiff, Nat.reduceBEq, hlt, hvb.iAddrN I1_len k hlt, drop_lt hlt, I1, i64_in]
      refine W_for 16 (fun r (_ : Unit) => [(3, tO f B.length), (7, .ref (B.length + ext.length) 0), (13, .lit (.int .i64 b[k])), (14, .lit (.int .i64 (r : Nat))), (38, vb), (39, .lit (.int .i64 b.length)), (40, .lit (.int .i64 k))])
        (fun _ _ => ⟨B ++ (ext1 ++ [.cells (bz.map boolV)]), wr1⟩) (fun r _ => True) ?_ () trivial rfl rfl
      intro r _ hr _
      by_cases hr16 : r < 16
      · have hr1 : (r : Int) < 16 := by omega
        have hr2 : 0 ≤ (r : Int) ∧ (r : Int) < ((16 : Nat) : Int) := by omega
        have hrb : r < bz.length := by omega
        have hg : (bz.map boolV)[r]? = some (.lit (.bool bz[r])) := by rw [bmap_get, List.getElem?_eq_getElem hrb]; rfl
        cases hbr : bz[r] with
        | true =>
          simp (disch := omega) only [l12_19, r12_16, r12_17, b12_18, go_sem, ↓reduceIte, Nat.reduceEqDiff, Nat.reduceAdd, Nat.reduceLeDiff, Nat.reduceBEq, hr1, hr2, hcb, hg, hbr, i64_in]
          exact ⟨hr16, (), trivial, rfl, rfl⟩
        | false =>
          have hne : ¬ (r : Int) = 16 := by omega
          have hx2 : 0 ≤ b[k] ∧ b[k] < (f.varl.length : Int) := hx
          have hout : ∀ X : ABlk, cellsAt (ext1 ++ [X]) 0 = some (o1.flatMap I1) := fun X => cellsAt_of (by rw [List.getElem?_append_left (by omega)]; exact j2.out)
          have hset0 : ∀ X Y : ABlk, (ext1 ++ [X]).set 0 Y = ext1.set 0 Y ++ [X] := fun X Y => List.set_append_left _ _ (by omega)
          have hbk : b[k].toNat < o1.length := by rw [j2.ol]; omega
          have hfl := I1_flen o1
          have hbk1 : b[k].toNat + 1 ≤ (o1.flatMap I1).length := by omega
          have hcb2 : ∀ X Y : List V, cellsAt (ext1.set 0 (.cells Y) ++ [.cells X]) ext.length = some X := fun X Y => by
            have : ext.length = (ext1.set 0 (.cells Y)).length := by rw [List.length_set, j1]
            rw [this, cellsAt_app0, cellsAt_zero]
          have hsb2 : ∀ (X Y : List V) (y : ABlk), (ext1.set 0 (.cells Y) ++ [ABlk.cells X]).set ext.length y = ext1.set 0 (.cells Y) ++ [y] := fun X Y y => by
            have : ext.length = (ext1.set 0 (.cells Y)).length := by rw [List.length_set, j1]
            rw [this, set_app0]; rfl
          have hrb1 : r + 1 ≤ (bz.map boolV).length := by simp; omega
          simp (disch := omega) only [l12_19, r12_16, r12_21, r12_23, r12_24, r12_26, tO, go_sem, ↓reduceIte, Nat.reduceEqDiff, Nat.reduceAdd, Nat.reduceLeDiff, Nat.reduceBEq, hr1, hr2, hcb, hg, hbr, hne, hx2, hout, hset0, hbk1, I1_set hbk, hcb2, hsb2, hrb1, bmap_splice hrb, i64_in]
          have hold : ∀ y, InV f y → y ≠ b[k] → og (o1.set b[k].toNat r) y = og o1 y := fun y hy hne => by rw [og_set j2.ol hx hy, if_neg hne]
          have hnew : og (o1.set b[k].toNat r) b[k] = r := by rw [og_set j2.ol hx hx, if_pos rfl]
          have hfree : ∀ z : Int, 0 ≤ z → bz[z.toNat]? = some true → z ≠ (r : Int) := by
            rintro z hz hzt rfl
            rw [Int.toNat_natCast, List.getElem?_eq_getElem hrb, hbr] at hzt
            cases hzt
          have hmk : ∀ x, x ∈ b.take (k + 1) ↔ x ∈ b.take k ∨ x = b[k] := fun x => by rw [List.take_succ_eq_append_getElem hlt, List.mem_append, List.mem_singleton]
          have hbz : ∀ z : Int, 0 ≤ z → bz[z.toNat]? = some true → (bz.set r true)[z.toNat]? = some true := by
            intro z hz hzt
            rw [List.getElem?_set]
            split
            · rfl
            · exact hzt
          refine ⟨hlt, ⟨ext1.set 0 (.cells ((o1.set b[k].toNat r).flatMap I1)), insN (B.length + ext.length) (insN B.length wr1), bz.set r true, o1.set b[k].toNat r⟩, ⟨by simpa using j1, j2.set (by simp), by simpa using j3, by simp [New_insN, j4], ?_, ?_, ?_, ?_, ?_⟩, rfl, rfl⟩
          · intro x hxv hxm
            rw [hmk, not_or] at hxm
            rw [hold x hxv hxm.2]
            exact j5 x hxv hxm.1
          · intro x hxm
            rcases (hmk x).1 hxm with hxm | rfl
            · have hxv := hb x (List.mem_of_mem_take hxm)
              have hne2 : x ≠ b[k] := fun e => hnk (e ▸ hxm)
              rw [hold x hxv hne2]
              obtain ⟨q1, q2⟩ := j6 x hxm
              exact ⟨q1, hbz _ q1.1 q2⟩
            · rw [hnew]
              refine ⟨by omega, ?_⟩
              rw [Int.toNat_natCast, List.getElem?_set_self hrb]
          · intro y hy hy0
            exact hbz _ hy0 (j7 y hy hy0)
          · intro x y hxm hy hyb hy0
            rcases (hmk x).1 hxm with hxm | rfl
            · have hxv := hb x (List.mem_of_mem_take hxm)
              have hne2 : x ≠ b[k] := fun e => hnk (e ▸ hxm)
              rw [hold x hxv hne2]
              exact j8 x y hxm hy hyb hy0
            · rw [hnew]
              exact (hfree _ hy0 (j7 y hy hy0)).symm
          · intro x y hxm hym hxy
            rcases (hmk x).1 hxm with hxm | rfl
            · have hxv := hb x (List.mem_of_mem_take hxm)
              have hne2 : x ≠ b[k] := fun e => hnk (e ▸ hxm)
              rw [hold x hxv hne2]
              rcases (hmk y).1 hym with hym | rfl
              · have hyv := hb y (List.mem_of_mem_take hym)
                have hne3 : y ≠ b[k] := fun e => hnk (e ▸ hym)
                rw [hold y hyv hne3]
                exact j9 x y hxm hym hxy
              · rw [hnew]
                exact hfree _ (j6 x hxm).1.1 (j6 x hxm).2
            · rw [hnew]
              rcases (hmk y).1 hym with hym | rfl
              · have hyv := hb y (List.mem_of_mem_take hym)
                have hne3 : y ≠ b[k] := fun e => hnk (e ▸ hym)
                rw [hold y hyv hne3]
                exact (hfree _ (j6 y hym).1.1 (j6 y hym).2).symm
              · exact absurd rfl hxy
      · have hr1 : ¬ (r : Int) < 16 := by omega
        have hr2 : (r : Int) = 16 := by omega
        simp (disch := omega) only [l12_19, r12_16, r12_21, r12_22, go_sem, ↓reduceIte, Nat.reduceEqDiff, Nat.reduceAdd, Nat.reduceLeDiff, Nat.reduceBEq, hr1, hr2]
        exact rg_fin h0 (j2.more _) hwr j4 fun ro ext' wr' e1 e2 e3 => ⟨false, ext', wr', o1, rfl, e1, e2, e3, fun h => by cases h⟩
    · rw [List.take_of_length_le hge] at j5 j6 j8 j9
      simp only [l12_27, r12_13, r12_29, go_sem, ↓reduceIte, Nat.reduceEqDiff, Nat.reduceAdd, Nat.reduceLeDiff, Nat.reduceBEq, Nat.not_lt.2 hge]
      exact rg_fin h0 (j2.more _) hwr j4 fun ro ext' wr' e1 e2 e3 => ⟨true, ext', wr', o1, rfl, e1, e2, e3, fun _ => ⟨j2.ol, j5, fun x hx => (j6 x hx).1, j8, j9⟩⟩
end Go.Proofs.Ytlliieplgdlldaa
