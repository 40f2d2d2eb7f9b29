/- The rules as a simp set, and lemmas on values: whole numbers, slices, the heap.
   Conditions: none; plain lemmas. -/
import Derived.Test.YtlliieplgdlldaaEvZ
import Derived.IntWalk
namespace Go.Ev

/-- the rest of the road is left as it is: simp looks at what stands first alone -/
def Still (a : Prop) : Prop := a
theorem still (a : Prop) : Still a = a := propext ⟨id, id⟩
@[congr] theorem Opt_congr {α : Type} {o o' : Option α} {P : α → Prop} {b : Prop} (h : o = o') (_ : Still True = b) : Opt o P = Opt o' P := by rw [h]
@[congr] theorem WC_congr {E : Env} {f : FuncId} {as as' : List V} {H H' : Heap} {Q : V → Option Heap → Prop} {b : Prop} (h : as = as') (h' : H = H') (_ : Still True = b) : WC E f as H Q = WC E f as' H' Q := by rw [h, h']
@[congr] theorem W_congr {E : Env} {a a' : I} {T T' : Tm} {H H' : Heap} {Q : Ex → Tm → Heap → Prop} {b : Prop} (h0 : a = a') (h : T = T') (h' : H = H') (_ : Still True = b) : W E a T H Q = W E a' T' H' Q := by rw [h, h', h0]
@[congr] theorem WI_congr {E : Env} {a : O} {T T' : Tm} {H H' : Heap} {Q : V → Option Heap → Prop} {b : Prop} (h : T = T') (h' : H = H') (_ : Still True = b) : WI E a T H Q = WI E a T' H' Q := by rw [h, h']
@[congr] theorem WH_congr {E : Env} {j : Nat} {imp : List Nat} {a : List Ins} {T T' : Tm} {H H' : Heap} {Q : Tm → Prop} {b : Prop} (h : T = T') (h' : H = H') (_ : Still True = b) : WH E j imp a T H Q = WH E j imp a T' H' Q := by rw [h, h']
@[congr] theorem WN_congr {E : Env} {j : Nat} {imp : List Nat} {a : List Ins} {T T' : Tm} {H H' : Heap} {Q : Tm → Heap → Prop} {b : Prop} (h : T = T') (h' : H = H') (_ : Still True = b) : WN E j imp a T H Q = WN E j imp a T' H' Q := by rw [h, h']
@[congr] theorem WR_congr {E : Env} {a : List Ins} {T T' : Tm} {H H' : Heap} {Q : Tm → Heap → Prop} {b : Prop} (h : T = T') (h' : H = H') (_ : Still True = b) : WR E a T H Q = WR E a T' H' Q := by rw [h, h']

theorem seqQ_normal {N : Tm → Heap → Prop} {Q : Ex → Tm → Heap → Prop} {T H} : seqQ N Q .normal T H ↔ N T H := ⟨id, id⟩
theorem seqQ_exit {N : Tm → Heap → Prop} {Q : Ex → Tm → Heap → Prop} {T H i} : seqQ N Q (.exit i) T H ↔ Q (.exit i) T H := ⟨id, id⟩
theorem seqQ_ret {N : Tm → Heap → Prop} {Q : Ex → Tm → Heap → Prop} {T H} : seqQ N Q .ret T H ↔ Q .ret T H := ⟨id, id⟩
theorem blockQ_normal {i : Nat} {Q : Ex → Tm → Heap → Prop} {T H} : blockQ i Q .normal T H ↔ Q .normal T H := ⟨id, id⟩
theorem blockQ_exit {i j : Nat} {Q : Ex → Tm → Heap → Prop} {T H} : blockQ i Q (.exit j) T H ↔ if j = i then Q .normal T H else Q (.exit j) T H := ⟨id, id⟩
theorem blockQ_ret {i : Nat} {Q : Ex → Tm → Heap → Prop} {T H} : blockQ i Q .ret T H ↔ Q .ret T H := ⟨id, id⟩

/-! ### whole numbers -/
theorem i64_in (n : Int) (h : -9223372036854775808 ≤ n ∧ n ≤ 9223372036854775807) : IntKind.i64.wrap n = n := Go.IntWalk.i64_in n h
theorem b_add {k : IntKind} {a b : Int} : binV .add (.lit (.int k a)) (.lit (.int k b)) = some (.lit (.int k (k.wrap (a + b)))) := by simp [binV, binI]
theorem b_sub {k : IntKind} {a b : Int} : binV .sub (.lit (.int k a)) (.lit (.int k b)) = some (.lit (.int k (k.wrap (a - b)))) := by simp [binV, binI]
theorem b_mul {k : IntKind} {a b : Int} : binV .mul (.lit (.int k a)) (.lit (.int k b)) = some (.lit (.int k (k.wrap (a * b)))) := by simp [binV, binI]
theorem b_quo {k : IntKind} {a b : Int} : binV .quo (.lit (.int k a)) (.lit (.int k b)) = if b = 0 then none else some (.lit (.int k (k.wrap (a.tdiv b)))) := by by_cases h : b = 0 <;> simp [binV, binI, h]
theorem b_rem {k : IntKind} {a b : Int} : binV .rem (.lit (.int k a)) (.lit (.int k b)) = if b = 0 then none else some (.lit (.int k (a.tmod b))) := by by_cases h : b = 0 <;> simp [binV, binI, h]
theorem b_eql {k : IntKind} {a b : Int} : binV .eql (.lit (.int k a)) (.lit (.int k b)) = some (.lit (.bool (decide (a = b)))) := by
  simp only [binV, binI]; simp; by_cases h : a = b <;> simp [h]
theorem b_neq {k : IntKind} {a b : Int} : binV .neq (.lit (.int k a)) (.lit (.int k b)) = some (.lit (.bool (decide (a ≠ b)))) := by
  simp only [binV, binI]; simp; by_cases h : a = b <;> simp [h]
theorem b_lss {k : IntKind} {a b : Int} : binV .lss (.lit (.int k a)) (.lit (.int k b)) = some (.lit (.bool (decide (a < b)))) := by simp [binV, binI]
theorem b_leq {k : IntKind} {a b : Int} : binV .leq (.lit (.int k a)) (.lit (.int k b)) = some (.lit (.bool (decide (a ≤ b)))) := by simp [binV, binI]
theorem b_gtr {k : IntKind} {a b : Int} : binV .gtr (.lit (.int k a)) (.lit (.int k b)) = some (.lit (.bool (decide (a > b)))) := by simp [binV, binI]
theorem b_geq {k : IntKind} {a b : Int} : binV .geq (.lit (.int k a)) (.lit (.int k b)) = some (.lit (.bool (decide (a ≥ b)))) := by simp [binV, binI]
theorem notV_lit {b : Bool} : notV (.lit (.bool b)) = some (.lit (.bool (!b))) := (rfl)
theorem convV_int {k k' : IntKind} {n : Int} : convV k (.lit (.int k' n)) = some (.lit (.int k (k.wrap n))) := (rfl)
theorem pickV_lit {a b : Option V} {c : Bool} : pickV a b (.lit (.bool c)) = if c = true then a else b := by cases c <;> rfl
theorem nilChk_imm {cs : List V} : nilChkV (.imm cs) = some (.imm cs) := (rfl)
theorem nilChk_ref {b o : Nat} : nilChkV (.ref b o) = some (.ref b o) := (rfl)
theorem nilChk_fn {f : FuncId} {a b : List V} : nilChkV (.fn f a b) = some (.fn f a b) := (rfl)
theorem fAddr_imm {o : Nat} {cs : List V} : fAddrV o (.imm cs) = if o ≤ cs.length then some (.imm (cs.drop o)) else none := (rfl)
theorem fAddr_ref {o b p : Nat} : fAddrV o (.ref b p) = some (.ref b (p + o)) := (rfl)
theorem ext_tup {i : Nat} {vs : List V} : extV i (.tup vs) = vs[i]? := (rfl)
theorem load_imm {H : Heap} {n : Option Nat} {cs : List V} : loadV H n (.imm cs) = partV cs 0 n := (rfl)
theorem load_ref {H : Heap} {n : Option Nat} {b o : Nat} : loadV H n (.ref b o) = (cellsAt H.blks b).bind fun cs => partV cs o n := (rfl)
theorem part_none {cs : List V} {o : Nat} : partV cs o none = cs[o]? := (rfl)
theorem part_some {cs : List V} {o n : Nat} : partV cs o (some n) = if o + n ≤ cs.length then some (.agg ((cs.drop o).take n)) else none := (rfl)
theorem store_ref {H : Heap} {n b o : Nat} {v : V} : storeV H n v (.ref b o) = (cellsAt H.blks b).bind fun cs => if v.cells.length = n ∧ o + n ≤ cs.length ∧ boxable v = true then some (H.write b (.cells (splice cs o v.cells))) else none := (rfl)
theorem len_nil : lenV (.lit (.slice .none 0 0)) = some 0 := (rfl)
theorem len_sl {cs : List V} {n : Nat} {o : Own} : lenV (.sl cs n o) = some n := (rfl)
theorem len_msl {b o n e : Nat} {c : Option Nat} : lenV (.msl b o n e c) = some n := (rfl)
theorem iAddr_msl {size b o n e : Nat} {c : Option Nat} {k : IntKind} {i : Int} : iAddrV size (.msl b o n e c) (.lit (.int k i)) = if 0 ≤ i ∧ i < (n : Int) then some (.ref b (o + i.toNat * size)) else none := (rfl)
theorem iAddr_sl {size n : Nat} {cs : List V} {o : Own} {k : IntKind} {i : Int} : iAddrV size (.sl cs n o) (.lit (.int k i)) = if 0 ≤ i ∧ i < (n : Int) then some (.imm (cs.drop (i.toNat * size))) else none := (rfl)
theorem iAddrA_ref {len size b o : Nat} {k : IntKind} {i : Int} : iAddrAV len size (.ref b o) (.lit (.int k i)) = if 0 ≤ i ∧ i < (len : Int) then some (.ref b (o + i.toNat * size)) else none := (rfl)
theorem idxA_agg {len size : Nat} {n : Option Nat} {cs : List V} {k : IntKind} {i : Int} : idxAV len size n (.agg cs) (.lit (.int k i)) = if 0 ≤ i ∧ i < (len : Int) then partV cs (i.toNat * size) n else none := (rfl)
theorem mkSl_int {size bytes : Nat} {z : List V} {l c : Int} : mkSlV size bytes z (.lit (.int .i64 l)) (.lit (.int .i64 c)) = if 0 ≤ l ∧ l ≤ c ∧ c * bytes ≤ 140737488355328 ∧ c ≤ 140737488355328 ∧ z.length = size then some (l.toNat, c.toNat) else none := (rfl)
theorem resVs_nil {T : Tm} {H : Heap} : resVs T H [] = some [] := (rfl)
theorem resVs_cons {T : Tm} {H : Heap} {r : ResV} {rs : List ResV} : resVs T H (r :: rs) = (resV T H r).bind fun v => (resVs T H rs).map (v :: ·) := by
  simp only [resVs]
  cases resV T H r <;> simp
  cases resVs T H rs <;> simp
theorem resV_tmp {T : Tm} {H : Heap} {t : Nat} : resV T H (.tmp t) = T.get t := (rfl)
theorem resV_cell {T : Tm} {H : Heap} {t : Nat} {n : Option Nat} : resV T H (.cell t n) = (T.get t).bind (loadV H n) := by
  simp only [resV]
  cases T.get t with
  | none => rfl
  | some v =>
    cases v <;> try rfl
    rename_i b o
    simp only [Option.bind_some, loadV, cellsAt]
    split
    · rename_i h; simp [h]
    · rename_i h
      cases hb : H.blks[b]? with
      | none => simp
      | some k => cases k <;> first | rfl | exact absurd hb (h _)
theorem one_one {v : V} : one [v] = v := (rfl)
theorem one_nil : one [] = .tup [] := (rfl)
theorem one_two {v w : V} {r : List V} : one (v :: w :: r) = .tup (v :: w :: r) := (rfl)
theorem isNil_slice_sl {cs : List V} {n : Nat} {o : Own} : isNil .slice (.sl cs n o) = some false := (rfl)

/-! ### slices that are not written -/
def I1 (n : Int) : List V := [.lit (.int .i64 n)]
theorem I1_len (n : Int) : (I1 n).length = 1 := (rfl)

/-- v reads as the list l, an element a over the cells f a -/
def IsSl {α : Type} (f : α → List V) (v : V) (l : List α) : Prop := (v = .lit (.slice .none 0 0) ∧ l = []) ∨ ∃ own, v = .sl (l.flatMap f) l.length own

section
variable {α : Type} {f : α → List V} {v : V} {l : List α}
theorem flatMap_len {n : Nat} (hf : ∀ a, (f a).length = n) : ∀ l : List α, (l.flatMap f).length = l.length * n
  | [] => by simp
  | a :: l => by simp [flatMap_len hf l, hf, Nat.add_mul]; omega
theorem flatMap_drop {n : Nat} (hf : ∀ a, (f a).length = n) : ∀ (l : List α) (k : Nat), (l.flatMap f).drop (k * n) = (l.drop k).flatMap f
  | l, 0 => by simp
  | [], k + 1 => by simp
  | a :: l, k + 1 => by
    rw [List.flatMap_cons, Nat.add_mul, Nat.one_mul, Nat.add_comm, List.drop_append, hf, Nat.add_sub_cancel_left, List.drop_of_length_le (by rw [hf]; omega), List.nil_append, flatMap_drop hf l k, List.drop_succ_cons]
theorem IsSl.nil : IsSl f (.lit (.slice .none 0 0)) ([] : List α) := .inl ⟨rfl, rfl⟩
theorem IsSl.sl {own : Own} {n : Nat} (h : n = l.length) : IsSl f (.sl (l.flatMap f) n own) l := .inr ⟨own, by rw [h]⟩
theorem IsSl.len (h : IsSl f v l) : lenV v = some l.length := by
  rcases h with ⟨rfl, rfl⟩ | ⟨own, rfl⟩ <;> rfl
theorem IsSl.iAddr {n : Nat} (hf : ∀ a, (f a).length = n) (h : IsSl f v l) {k : IntKind} (i : Int) (h0 : 0 ≤ i) (h1 : i < l.length) : iAddrV n v (.lit (.int k i)) = some (.imm ((l.drop i.toNat).flatMap f)) := by
  rcases h with ⟨rfl, rfl⟩ | ⟨own, rfl⟩
  · simp at h1; omega
  · rw [iAddr_sl, if_pos ⟨h0, h1⟩, flatMap_drop hf]
theorem IsSl.iAddrN {n : Nat} (hf : ∀ a, (f a).length = n) (h : IsSl f v l) {k : IntKind} (i : Nat) (h1 : i < l.length) : iAddrV n v (.lit (.int k i)) = some (.imm ((l.drop i).flatMap f)) := by
  rw [h.iAddr hf i (by omega) (by omega), Int.toNat_natCast]
theorem drop_lt {k : Nat} (h : k < l.length) : l.drop k = l[k] :: l.drop (k + 1) := by simp
theorem lt_of_drop {k : Nat} {a : α} {r : List α} (h : l.drop k = a :: r) : k < l.length := by
  rcases Nat.lt_or_ge k l.length with h2 | h2
  · exact h2
  · rw [List.drop_of_length_le h2] at h; cases h
end

/-! ### the end of a call -/
def New (n : Nat) (wr : List Nat) : Prop := ∀ b, b ∈ wr → n ≤ b
theorem New_nil {n : Nat} : New n [] ↔ True := by simp [New]
theorem New_insN {n b : Nat} {l : List Nat} : New n (insN b l) ↔ n ≤ b ∧ New n l := by
  unfold insN New
  split
  · rename_i h
    constructor
    · intro h'
      exact ⟨h' b (by simpa using h), h'⟩
    · exact fun h' => h'.2
  · simp
theorem finish_new {kt : Bool} {H0 H : Heap} {v : V} {Q : V → Option Heap → Prop} (hn : New H0.blks.length H.wr) (hc : (if kt then v else v.strip).closed H0.blks.length = true) (q : Q (if kt then v else v.strip) none) : finQ kt H0 Q v H := by
  have h : H.wr.filter (fun b => decide (b < H0.blks.length)) = [] := by
    rw [List.filter_eq_nil_iff]
    intro b hb
    have := hn b hb
    simp; omega
  unfold finQ finish
  simp only [h, hc, List.all_nil, Bool.and_true, if_true, List.isEmpty_nil]
  exact q
theorem push_eq {H : Heap} {x : ABlk} : H.push x = ⟨H.blks ++ [x], H.wr⟩ := (rfl)
theorem write_eq {H : Heap} {b : Nat} {x : ABlk} : H.write b x = ⟨H.blks.set b x, insN b H.wr⟩ := (rfl)

attribute [go_sem] W_skip W_exit W_ret W_reg W_draw W_drawC W_seq W_cond W_block W_scope W_frz W_frzA seqQ_normal seqQ_exit seqQ_ret blockQ_normal blockQ_exit blockQ_ret
  WR_nil WR_cons WR_consG WH_nil WHc WN_nil WNc
  I_mov I_pick I_boxT I_build I_buildSl I_nilChk I_bin I_eq I_not I_neg I_conv I_mkFn I_fAddr I_fld I_iAddr I_iAddrA I_idxA I_ext I_len I_lenS I_mm I_load I_store I_alloc I_boxF I_mkMap I_mkSl I_app I_look I_mapUpd I_clr I_call I_callv
  Opt_some Opt_none get_nil
attribute [go_sem ↓] get_cons
attribute [go_sem] Option.getD_none Option.getD_some Opt_ite_none Opt_ite Opt_map Opt_bind set_cons set_nil keep_nil keep_cons put_some put_none ev_t ev_c ev_f evs_nil evs_cons evps_nil evps_cons init_nil init_cons wanted_some wanted_none wantedV_lit wantedV_tup fnOf_fn boolOf_lit
  b_add b_sub b_mul b_quo b_rem b_eql b_neq b_lss b_leq b_gtr b_geq notV_lit convV_int pickV_lit nilChk_imm nilChk_ref nilChk_fn fAddr_imm fAddr_ref ext_tup load_imm load_ref part_none part_some store_ref len_nil len_sl len_msl iAddr_msl iAddrA_ref idxA_agg mkSl_int
  resVs_nil resVs_cons resV_tmp resV_cell one_one one_nil one_two

theorem retQ_normal {res : List ResV} {kt : Bool} {H0 : Heap} {Q : V → Option Heap → Prop} {T : Tm} {H : Heap} : retQ res kt H0 Q .normal T H ↔ Opt (resVs T H res) fun vs => finQ kt H0 Q (one vs) H := ⟨id, id⟩
theorem retQ_ret {res : List ResV} {kt : Bool} {H0 : Heap} {Q : V → Option Heap → Prop} {T : Tm} {H : Heap} : retQ res kt H0 Q .ret T H ↔ Opt (resVs T H res) fun vs => finQ kt H0 Q (one vs) H := ⟨id, id⟩
@[congr] theorem finQ_congr {kt : Bool} {H0 : Heap} {Q : V → Option Heap → Prop} {v v' : V} {H H' : Heap} {b : Prop} (h : v = v') (h' : H = H') (_ : Still True = b) : finQ kt H0 Q v H = finQ kt H0 Q v' H' := by rw [h, h']
attribute [go_sem] retQ_normal retQ_ret
attribute [go_sem] still decide_eq_true_eq Int.ofNat_lt List.getElem?_cons_zero List.getElem?_cons_succ List.cons_append List.nil_append List.flatMap_cons Int.toNat_natCast List.drop_succ_cons List.drop_zero List.length_cons List.length_nil List.take_succ_cons List.take_zero

/-! ### the heap: old blocks B, then what the call makes -/
section
variable {B l : List ABlk} {x : ABlk} {cs : List V} {es : List (V × V)}
theorem get_app {i : Nat} : (B ++ l)[B.length + i]? = l[i]? := by rw [List.getElem?_append_right (by omega), Nat.add_sub_cancel_left]
theorem get_app0 : (B ++ l)[B.length]? = l[0]? := get_app (i := 0)
theorem cellsAt_app0 : cellsAt (B ++ l) B.length = cellsAt l 0 := by simp only [cellsAt, get_app0]
theorem cellsAt_app {i : Nat} : cellsAt (B ++ l) (B.length + i) = cellsAt l i := by simp only [cellsAt, get_app]
theorem cellsAt_zero : cellsAt (.cells cs :: l) 0 = some cs := by simp [cellsAt]
theorem cellsAt_succ {n : Nat} : cellsAt (x :: l) (n + 1) = cellsAt l n := by simp [cellsAt]
theorem mapAt_app0 : mapAt (B ++ l) B.length = mapAt l 0 := by simp only [mapAt, get_app0]
theorem mapAt_app {i : Nat} : mapAt (B ++ l) (B.length + i) = mapAt l i := by simp only [mapAt, get_app]
theorem mapAt_zero : mapAt (.map es :: l) 0 = some es := by simp [mapAt]
theorem mapAt_succ {n : Nat} : mapAt (x :: l) (n + 1) = mapAt l n := by simp [mapAt]
theorem set_app0 : (B ++ l).set B.length x = B ++ l.set 0 x := by simp
theorem set_app {i : Nat} : (B ++ l).set (B.length + i) x = B ++ l.set i x := by simp
end
attribute [go_sem] cellsAt_app0 cellsAt_app cellsAt_zero cellsAt_succ mapAt_app0 mapAt_app mapAt_zero mapAt_succ set_app0 set_app push_eq write_eq List.set_cons_zero List.set_cons_succ List.length_append List.append_assoc
theorem closedL_flat {α : Type} {f : α → List V} {n : Nat} (h : ∀ a, V.closedL n (f a) = true) : ∀ l : List α, V.closedL n (l.flatMap f) = true
  | [] => rfl
  | a :: l => by
    have happ : ∀ x y : List V, V.closedL n (x ++ y) = (V.closedL n x && V.closedL n y) := by
      intro x
      induction x with
      | nil => intro y; simp [V.closedL]
      | cons a x ih => intro y; simp [V.closedL, ih, Bool.and_assoc]
    rw [List.flatMap_cons, happ, h, closedL_flat h l]
    rfl
theorem IsSl.strip {α : Type} {f : α → List V} {v : V} {l : List α} (h : IsSl f v l) : IsSl f v.strip l := by
  rcases h with ⟨rfl, rfl⟩ | ⟨own, rfl⟩
  · exact .nil
  · exact .inr ⟨.none, rfl⟩
theorem IsSl.closed {α : Type} {f : α → List V} {v : V} {l : List α} {n : Nat} (h : IsSl f v l) (hf : ∀ a, V.closedL n (f a) = true) : v.strip.closed n = true := by
  rcases h with ⟨rfl, rfl⟩ | ⟨own, rfl⟩
  · rfl
  · simp [V.strip, V.strip2, V.strip1, V.closed, closedL_flat hf]
/-- the same, with no token -/
def IsSl0 {α : Type} (f : α → List V) (v : V) (l : List α) : Prop := (v = .lit (.slice .none 0 0) ∧ l = []) ∨ v = .sl (l.flatMap f) l.length .none
theorem IsSl0.is {α : Type} {f : α → List V} {v : V} {l : List α} (h : IsSl0 f v l) : IsSl f v l := h.imp id fun h => ⟨_, h⟩
theorem IsSl.strip0 {α : Type} {f : α → List V} {v : V} {l : List α} (h : IsSl f v l) : IsSl0 f v.strip l := by
  rcases h with ⟨rfl, rfl⟩ | ⟨own, rfl⟩
  · exact .inl ⟨rfl, rfl⟩
  · exact .inr rfl
theorem I1_closed {n : Nat} (a : Int) : V.closedL n (I1 a) = true := rfl

/-! ### what is frozen; what is stripped -/
theorem strip1_lit {v : Value} : (V.lit v).strip1 = .lit v := (rfl)
theorem strip1_sl {cs : List V} {n : Nat} {o : Own} : (V.sl cs n o).strip1 = .sl cs n .none := (rfl)
theorem strip1_fn {f : FuncId} {a b : List V} : (V.fn f a b).strip1 = .fn f a b := (rfl)
theorem strip1_imm {cs : List V} : (V.imm cs).strip1 = .imm cs := (rfl)
theorem strip1_ref {b o : Nat} : (V.ref b o).strip1 = .ref b o := (rfl)
theorem strip1_msl {b o n e : Nat} {c : Option Nat} : (V.msl b o n e c).strip1 = .msl b o n e c := (rfl)
theorem strip1_map {b : Nat} : (V.map b).strip1 = .map b := (rfl)
theorem strip2_lit {v : Value} : (V.lit v).strip2 = .lit v := (rfl)
theorem strip2_sl {cs : List V} {n : Nat} {o : Own} : (V.sl cs n o).strip2 = .sl cs n .none := (rfl)
theorem strip2_agg {cs : List V} : (V.agg cs).strip2 = .agg (cs.map V.strip1) := (rfl)
theorem cells_lit {v : Value} : (V.lit v).cells = [.lit v] := (rfl)
theorem cells_agg {cs : List V} : (V.agg cs).cells = cs := (rfl)
theorem cells_sl {cs : List V} {n : Nat} {o : Own} : (V.sl cs n o).cells = [.sl cs n o] := (rfl)
theorem cells_fn {f : FuncId} {a b : List V} : (V.fn f a b).cells = [.fn f a b] := (rfl)
theorem cells_msl {b o n e : Nat} {c : Option Nat} : (V.msl b o n e c).cells = [.msl b o n e c] := (rfl)
theorem cells_ref {b o : Nat} : (V.ref b o).cells = [.ref b o] := (rfl)
theorem box_lit {v : Value} : boxable (.lit v) = true := (rfl)
theorem box_agg {cs : List V} : boxable (.agg cs) = true := (rfl)
theorem box_sl {cs : List V} {n : Nat} {o : Own} : boxable (.sl cs n o) = true := (rfl)
theorem box_fn {f : FuncId} {a b : List V} : boxable (.fn f a b) = true := (rfl)
theorem box_msl {b o n e : Nat} {c : Option Nat} : boxable (.msl b o n e c) = true := (rfl)
theorem box_ref {b o : Nat} : boxable (.ref b o) = true := (rfl)
theorem frz_ref {H : Heap} {b o : Nat} : frzV H (.ref b o) = (cellsAt H.blks b).map fun cs => (.imm ((cs.drop o).map V.strip1), H.write b .dead) := by
  simp only [frzV, cellsAt]
  cases H.blks[b]? with
  | none => rfl
  | some k => cases k <;> rfl
theorem frz_msl {H : Heap} {b o n e : Nat} {c : Option Nat} : frzV H (.msl b o n e c) = (cellsAt H.blks b).map fun cs => (.sl (((cs.drop o).take (n * e)).map V.strip1) n .none, H.write b .dead) := by
  simp only [frzV, cellsAt]
  cases H.blks[b]? with
  | none => rfl
  | some k => cases k <;> rfl
theorem frz_sl {H : Heap} {cs : List V} {n : Nat} {o : Own} : frzV H (.sl cs n o) = some (.sl cs n o, H) := (rfl)
theorem frz_lit {H : Heap} {v : Value} : frzV H (.lit v) = some (.lit v, H) := (rfl)
theorem IsSl.frz {α : Type} {f : α → List V} {v : V} {l : List α} {H : Heap} (h : IsSl f v l) : frzV H v = some (v, H) := by
  rcases h with ⟨rfl, rfl⟩ | ⟨own, rfl⟩ <;> rfl
theorem IsSl.strip1 {α : Type} {f : α → List V} {v : V} {l : List α} (h : IsSl f v l) : IsSl0 f v.strip1 l := by
  rcases h with ⟨rfl, rfl⟩ | ⟨own, rfl⟩
  · exact .inl ⟨rfl, rfl⟩
  · exact .inr rfl
theorem IsSl0.strip1 {α : Type} {f : α → List V} {v : V} {l : List α} (h : IsSl0 f v l) : v.strip1 = v := by
  rcases h with ⟨rfl, rfl⟩ | rfl <;> rfl
theorem IsSl.cells {α : Type} {f : α → List V} {v : V} {l : List α} (h : IsSl f v l) : v.cells = [v] := by
  rcases h with ⟨rfl, rfl⟩ | ⟨own, rfl⟩ <;> rfl
theorem IsSl.box {α : Type} {f : α → List V} {v : V} {l : List α} (h : IsSl f v l) : boxable v = true := by
  rcases h with ⟨rfl, rfl⟩ | ⟨own, rfl⟩ <;> rfl
attribute [go_sem] strip1_lit strip1_sl strip1_fn strip1_imm strip1_ref strip1_msl strip1_map strip2_lit strip2_sl strip2_agg cells_lit cells_agg cells_sl cells_fn cells_msl cells_ref box_lit box_agg box_sl box_fn box_msl box_ref frz_ref frz_msl frz_sl frz_lit
  List.map_cons List.map_nil and_true true_and splice
theorem splice_all {cs vs : List V} (h : cs.length = vs.length) : splice cs 0 vs = vs := by simp [splice, h]

/-! ### slices that grow -/
def Grow {α : Type} (f : α → List V) (n : Nat) (B ext : List ABlk) (v : V) (l : List α) : Prop :=
  (v = .lit (.slice .none 0 0) ∧ l = []) ∨ ∃ i, v = .sl (l.flatMap f) l.length (.tok (B.length + i) n) ∧ ext[i]? = some (.row (l.length * n))
theorem Grow.is {α : Type} {f : α → List V} {n : Nat} {B ext : List ABlk} {v : V} {l : List α} (h : Grow f n B ext v l) : IsSl f v l := h.imp id fun ⟨_, h, _⟩ => ⟨_, h⟩
theorem Grow.nil {α : Type} {f : α → List V} {n : Nat} {B ext : List ABlk} : Grow f n B ext (.lit (.slice .none 0 0)) ([] : List α) := .inl ⟨rfl, rfl⟩
def ABlk.isRow : ABlk → Bool
  | .row _ => true
  | _ => false
theorem src_is {α : Type} {f : α → List V} {n : Nat} (hf : ∀ a, (f a).length = n) {bs : List ABlk} {y : V} {l : List α} (h : IsSl f y l) : srcCells bs n y = some (l.flatMap f, l.length) := by
  rcases h with ⟨rfl, rfl⟩ | ⟨own, rfl⟩
  · rfl
  · simp only [srcCells]
    rw [flatMap_len hf, if_pos (Nat.le_refl _), List.take_of_length_le (by rw [flatMap_len hf]; exact Nat.le_refl _)]
theorem map_flat {α : Type} {f : α → List V} {g : V → V} (h : ∀ a, (f a).map g = f a) : ∀ l : List α, (l.flatMap f).map g = l.flatMap f
  | [] => rfl
  | a :: l => by rw [List.flatMap_cons, List.map_append, h, map_flat h l]

theorem app_grow {α : Type} {f : α → List V} {n bytes : Nat} (hf : ∀ a, (f a).length = n) (hs : ∀ a, (f a).map V.strip1 = f a) {B ext : List ABlk} {wr : List Nat} {x y : V} {l l2 : List α}
    (hx : Grow f n B ext x l) (hy : IsSl f y l2) (hb : (l.length + l2.length) * bytes ≤ 140737488355328) (hb2 : l.length + l2.length ≤ 140737488355328) (hw : New B.length wr) {P : V × Option Heap → Prop}
    (h : ∀ v' ext' wr', Grow f n B ext' v' (l ++ l2) → New B.length wr' → (∀ (j : Nat) (b : ABlk), ext[j]? = some b → b.isRow = false → ext'[j]? = some b) → ∀ o : Option Heap, o.getD ⟨B ++ ext, wr⟩ = ⟨B ++ ext', wr'⟩ → P (v', o)) :
    Opt (appV ⟨B ++ ext, wr⟩ false n bytes x y) P := by
  simp only [appV, src_is hf hy]
  by_cases h0 : l2.length = 0
  · have : l2 = [] := List.eq_nil_of_length_eq_zero h0
    subst this
    simp only [List.length_nil, if_true]
    rcases hx with ⟨rfl, rfl⟩ | ⟨i, rfl, hi⟩
    · exact Opt_some.2 (h _ ext wr (by rw [List.append_nil]; exact .inl ⟨rfl, rfl⟩) hw (fun _ _ hj _ => hj) none rfl)
    · exact Opt_some.2 (h _ ext wr (by rw [List.append_nil]; exact .inr ⟨i, rfl, hi⟩) hw (fun _ _ hj _ => hj) none rfl)
  · rw [if_neg h0]
    rcases hx with ⟨rfl, rfl⟩ | ⟨i, rfl, hi⟩
    · simp only [List.length_nil, Nat.zero_add] at hb hb2
      simp only [List.length_nil, Nat.zero_add, Nat.zero_mul, hb, hb2, and_self, if_true, List.nil_append, Bool.false_eq_true, if_false, Opt_some]
      rw [map_flat hs]
      refine h _ (ext ++ [.row (l2.length * n)]) wr (.inr ⟨ext.length, by simp [List.length_append], by simp⟩) hw (fun j b hj _ => ?_) _ ?_
      · rw [List.getElem?_append_left (List.getElem?_eq_some_iff.1 hj).1]; exact hj
      · simp [Heap.push]
    · have hlt : i < ext.length := (List.getElem?_eq_some_iff.1 hi).1
      simp only [get_app, hi, decide_true, and_self, and_true, if_true]
      rw [if_pos ⟨hb, hb2, by rw [flatMap_len hf]⟩]
      simp only [Bool.false_eq_true, if_false, Opt_some]
      rw [map_flat hs]
      refine h _ (ext.set i .dead ++ [.row ((l.length + l2.length) * n)]) (insN (B.length + i) wr) (.inr ⟨ext.length, ?_, ?_⟩) ?_ (fun j b hj hr => ?_) _ ?_
      · simp [Heap.write, List.length_append]
      · simp
      · rw [New_insN]; exact ⟨by omega, hw⟩
      · have hji : j ≠ i := by
          rintro rfl
          rw [hi] at hj
          cases hj
          cases hr
        rw [List.getElem?_append_left (by simpa using (List.getElem?_eq_some_iff.1 hj).1), List.getElem?_set_ne (Ne.symm hji)]
        exact hj
      · simp [Heap.push, Heap.write]

/-! ### operations that ask nothing, run at once -/
def evPs : List Ins → Tm → Option Tm
  | [], T => some T
  | i :: is, T => match i.guard with
    | some _ => none
    | none => match evP T i.op with
      | none => none
      | some v => evPs is (put T i.dst v)
theorem WR_run {E : Env} {Q : Tm → Heap → Prop} {H : Heap} {T' : Tm} : ∀ (k : Nat) {is : List Ins} {T : Tm}, evPs (is.take k) T = some T' → WR E (is.drop k) T' H Q → WR E is T H Q
  | 0, is, T, h, q => by
    simp only [List.take_zero, evPs, Option.some.injEq] at h
    subst h
    exact q
  | k + 1, [], T, h, q => by
    simp only [List.take_nil, evPs, Option.some.injEq] at h
    subst h
    simpa using q
  | k + 1, ⟨d, op, some g⟩ :: is, T, h, q => by simp [evPs] at h
  | k + 1, ⟨d, op, none⟩ :: is, T, h, q => by
    simp only [List.take_succ_cons, evPs] at h
    split at h
    · cases h
    · rename_i v hv
      rw [WR_cons, WI_some hv]
      exact WR_run k h (by simpa using q)

section
variable {E : Env} {T : Tm} {H : Heap} {j n : Nat} {imp : List Nat} {i : Ins} {is : List Ins} {Q : Tm → Prop} {Q' : Tm → Heap → Prop}
theorem WH_takeS : WH E j imp (List.take (n + 1) (i :: is)) T H Q ↔ WH E j imp (i :: List.take n is) T H Q := by rw [List.take_succ_cons]
theorem WH_take0 : WH E j imp (List.take 0 is) T H Q ↔ WH E j imp [] T H Q := by rw [List.take_zero]
theorem WH_takeN : WH E j imp (List.take n []) T H Q ↔ WH E j imp [] T H Q := by rw [List.take_nil]
theorem WR_dropS : WR E (List.drop (n + 1) (i :: is)) T H Q' ↔ WR E (List.drop n is) T H Q' := by rw [List.drop_succ_cons]
theorem WR_drop0 : WR E (List.drop 0 is) T H Q' ↔ WR E is T H Q' := by rw [List.drop_zero]
attribute [go_sem] WH_takeS WH_take0 WH_takeN WR_dropS WR_drop0
end
attribute [go_sem] decide_true decide_false Bool.not_true Bool.not_false beq_true beq_false Bool.not_eq_true' decide_eq_false_iff_not Bool.false_eq_true List.append_nil if_true if_false
theorem Grow.more {α : Type} {f : α → List V} {n : Nat} {B ext : List ABlk} {v : V} {l : List α} (h : Grow f n B ext v l) (e : List ABlk) : Grow f n B (ext ++ e) v l :=
  h.imp id fun ⟨i, h1, h2⟩ => ⟨i, h1, by rw [List.getElem?_append_left (List.getElem?_eq_some_iff.1 h2).1]; exact h2⟩
attribute [go_sem] fillV rept List.all_cons List.all_nil Bool.and_true and_self Bool.and_self Nat.zero_add Nat.add_zero not_true_eq_false not_false_eq_true
attribute [go_sem] get_set
attribute [go_sem] pureO List.contains_cons List.contains_nil Bool.or_true Bool.or_false Bool.false_or Bool.true_or
def loadI (n : Option Nat) : V → Option V
  | .imm cs => partV cs 0 n
  | _ => none
theorem loadI_imm {n : Option Nat} {cs : List V} : loadI n (.imm cs) = partV cs 0 n := (rfl)
theorem evP_load {T : Tm} {n : Option Nat} {x : Opd} {P : V → Prop} : Opt (evP T (.load n x)) P ↔ Opt (x.ev T) fun v => Opt (loadI n v) P := by
  simp only [evP]
  cases x.ev T with
  | none => simp [Opt_none]
  | some v => cases v <;> simp [Opt_some, Opt_none, loadI]
attribute [go_sem] evP_load loadI_imm
attribute [go_sem] I_sl asNat_int bnd_00 bnd_lo bnd_hi bnd_lh slRes_msl slRes_sl clr_msl Option.map_none Option.map_some Option.bind_some Option.bind_none

/-- the end of a call that wrote old blocks, where nothing leads to what it made -/
theorem finish_take {kt : Bool} {H0 H : Heap} {v : V} {Q : V → Option Heap → Prop} (hc : (if kt then v else v.strip).closed H0.blks.length = true)
    (ho : ∀ (b : Nat) (x : ABlk), b ∈ H.wr → b < H0.blks.length → H.blks[b]? = some x → x.closed H0.blks.length = true)
    (hk : New H0.blks.length H.wr → H.blks.take H0.blks.length = H0.blks)
    (q : ∀ (o : Option Heap) (wr' : List Nat), o.getD H0 = ⟨H.blks.take H0.blks.length, wr'⟩ → (∀ b, b ∈ wr' → b ∈ H0.wr ∨ (b ∈ H.wr ∧ b < H0.blks.length)) → Q (if kt then v else v.strip) o) : finQ kt H0 Q v H := by
  unfold finQ finish
  simp only
  generalize (if kt = true then v else v.strip) = r at hc q ⊢
  rw [if_pos (by
    rw [Bool.and_eq_true]
    refine ⟨hc, List.all_eq_true.2 fun b hb => ?_⟩
    rw [List.mem_filter, decide_eq_true_eq] at hb
    cases h : H.blks[b]? with
    | none => rfl
    | some x => exact ho b x hb.1 hb.2 h)]
  simp only
  split
  · rename_i he
    refine q none H0.wr ?_ (fun b hb => .inl hb)
    rw [List.isEmpty_iff, List.filter_eq_nil_iff] at he
    rw [Option.getD_none, hk fun b hb => by have := he b hb; simp at this; exact this]
  · refine q _ _ rfl (fun b hb => ?_)
    rcases mem_addN.1 hb with h | h
    · rw [List.mem_filter, decide_eq_true_eq] at h
      exact .inr h
    · exact .inl h
theorem cellsAt_set {bs : List ABlk} {b : Nat} {cs : List V} (h : b < bs.length) : cellsAt (bs.set b (.cells cs)) b = some cs := by simp [cellsAt, h]
attribute [go_sem] Nat.mul_one eq_self
theorem strip_tup {vs : List V} : (V.tup vs).strip = .tup (vs.map V.strip2) := (rfl)
theorem closed_tup {n : Nat} {vs : List V} : (V.tup vs).closed n = V.closedL n vs := by simp only [V.closed]
theorem closedL_cons {n : Nat} {v : V} {vs : List V} : V.closedL n (v :: vs) = (v.closed n && V.closedL n vs) := by simp only [V.closedL]
theorem closedL_nil {n : Nat} : V.closedL n [] = true := (rfl)
theorem IsSl.strip2 {α : Type} {f : α → List V} {v : V} {l : List α} (h : IsSl f v l) : IsSl0 f v.strip2 l := by
  rcases h with ⟨rfl, rfl⟩ | ⟨own, rfl⟩
  · exact .inl ⟨rfl, rfl⟩
  · exact .inr rfl
theorem IsSl0.closed {α : Type} {f : α → List V} {v : V} {l : List α} {n : Nat} (h : IsSl0 f v l) (hf : ∀ a, V.closedL n (f a) = true) : v.closed n = true := by
  rcases h with ⟨rfl, rfl⟩ | rfl
  · rfl
  · simp [V.closed, closedL_flat hf]
theorem closed_lit {n : Nat} {v : Value} : (V.lit v).closed n = true := (rfl)

/-! ### regions that make blocks in an order that is drawn -/
def env0 : Env := ⟨fun _ => none, fun _ => none⟩
theorem evP_pure {T : Tm} {op : O} {P : V → Prop} (h : pureO op = true) : Opt (evP T op) P ↔ WI env0 op T ⟨[], []⟩ fun v _ => P v := (WI_pure (E := env0) (H := ⟨[], []⟩) (Q := fun v _ => P v) h).symm
def WA (base j : Nat) (al : List Nat) (is : List Ins) (T : Tm) (bs : List ABlk) (Q : Tm × List ABlk → Prop) : Prop := Opt (evHeadsA base j al is T bs) Q
@[congr] theorem WA_congr {base j : Nat} {al : List Nat} {is is' : List Ins} {T T' : Tm} {bs bs' : List ABlk} {Q : Tm × List ABlk → Prop} {b : Prop} (h0 : is = is') (h : T = T') (h' : bs = bs') (_ : Still True = b) : WA base j al is T bs Q = WA base j al is' T' bs' Q := by rw [h, h', h0]
theorem W_drawA' {E : Env} {T : Tm} {H : Heap} {Q : Ex → Tm → Heap → Prop} {ops : List Ins} {head : Nat} {al keep : List Nat} : W E (.drawA ops head al keep) T H Q ↔ WA H.blks.length 0 al (ops.take head) T [] fun r => WR E (ops.drop head) r.1 ⟨H.blks ++ r.2, H.wr⟩ fun T' H' => Q .normal (T'.keep keep) H' := W_drawA
theorem WA_nil {base j : Nat} {al : List Nat} {T : Tm} {bs : List ABlk} {Q : Tm × List ABlk → Prop} : WA base j al [] T bs Q ↔ Q (T, bs) := by simp [WA, evHeadsA, Opt_some]
theorem WA_cons {base j : Nat} {al : List Nat} {d : Option Nat} {op : O} {is : List Ins} {T : Tm} {bs : List ABlk} {Q : Tm × List ABlk → Prop} : WA base j al (⟨d, op, none⟩ :: is) T bs Q ↔
    if al.contains j = true then Opt (allocB T op) (fun r => r.2.closed base = true ∧ WA base (j + 1) al is (put T d (r.1 (base + bs.length))) (bs ++ [r.2]) Q)
    else Opt (evP T op) fun v => (v.closed base || plainMov ⟨d, op, none⟩) = true ∧ WA base (j + 1) al is (put T d v) bs Q := by
  unfold WA
  simp only [evHeadsA, wanted]
  split
  · cases allocB T op with
    | none => simp [Opt_none]
    | some r =>
      obtain ⟨g, b⟩ := r
      simp only [Opt_some, Opt_ite_none]
  · cases evP T op with
    | none => simp [Opt_none]
    | some v => simp only [Opt_some, Opt_ite_none, if_true]
theorem allocB_mkSl {T : Tm} {size bytes : Nat} {z : List V} {l c : Opd} {P : (Nat → V) × ABlk → Prop} : Opt (allocB T (.mkSl size bytes z l c)) P ↔ Opt (l.ev T) fun l => Opt (c.ev T) fun c => Opt (mkSlV size bytes z l c) fun r => P (fun n => .msl n 0 r.1 size (some r.2), .cells (rept r.2 z)) := by
  cases hl : l.ev T with
  | none => simp [allocB, hl, Opt_none]
  | some a =>
    cases hc : c.ev T with
    | none => simp [allocB, hl, hc, Opt_none, Opt_some]
    | some b =>
      have e : allocB T (.mkSl size bytes z l c) = (mkSlV size bytes z a b).map fun r => (fun n => .msl n 0 r.1 size (some r.2), .cells (rept r.2 z)) := by
        simp only [allocB, hl, hc]
        cases a <;> first | rfl | (rename_i w; cases w <;> first | rfl | (rename_i k l; cases k <;> first | rfl | (cases b <;> first | rfl | (rename_i w; cases w <;> first | rfl | (rename_i k c; cases k <;> first | rfl | (simp only [mkSlV]; split <;> rfl))))))
      rw [e, Opt_map, Opt_some, Opt_some]
theorem blk_closed_cells {n : Nat} {cs : List V} : (ABlk.cells cs).closed n = V.closedL n cs := (rfl)
theorem rept_closed {n k : Nat} {z : List V} (h : V.closedL n z = true) : V.closedL n (rept k z) = true := by
  have happ : ∀ x y : List V, V.closedL n (x ++ y) = (V.closedL n x && V.closedL n y) := by
    intro x
    induction x with
    | nil => intro y; simp [V.closedL]
    | cons a x ih => intro y; simp [V.closedL, ih, Bool.and_assoc]
  induction k with
  | zero => rfl
  | succ k ih => rw [rept, happ, h, ih]; rfl
theorem WA_takeS {base j n : Nat} {al : List Nat} {i : Ins} {is : List Ins} {T : Tm} {bs : List ABlk} {Q : Tm × List ABlk → Prop} : WA base j al (List.take (n + 1) (i :: is)) T bs Q ↔ WA base j al (i :: List.take n is) T bs Q := by rw [List.take_succ_cons]
theorem closed_imm {n : Nat} {cs : List V} : (V.imm cs).closed n = V.closedL n cs := by simp only [V.closed]
attribute [go_sem] W_drawA' WA_nil WA_cons allocB_mkSl blk_closed_cells closedL_cons closedL_nil closed_lit closed_imm
theorem pv_mov {T : Tm} {P : V → Prop} {x : Opd} : Opt (evP T (.mov x)) P ↔ Opt (x.ev T) fun v => P v := by rw [evP_pure rfl, I_mov]
theorem pv_pick {T : Tm} {P : V → Prop} {c a b : Opd} : Opt (evP T (.pick c a b)) P ↔ Opt (c.ev T) fun v => Opt (pickV (a.ev T) (b.ev T) v) fun r => P r := by rw [evP_pure rfl, I_pick]
theorem pv_boxT {T : Tm} {P : V → Prop} {x : Opd} : Opt (evP T (.box true x)) P ↔ Opt (x.ev T) fun v => boxable v = true ∧ P (.imm v.strip2.cells) := by rw [evP_pure rfl, I_boxT]
theorem pv_build {T : Tm} {P : V → Prop} {z : List V} {ps : List (Nat × Nat × Opd)} : Opt (evP T (.build z ps)) P ↔ Opt (evps T ps) fun ps => Opt (fillV z ps) fun cs => P (.agg cs) := by rw [evP_pure rfl, I_build]
theorem pv_buildSl {T : Tm} {P : V → Prop} {len size : Nat} {z : List V} {ps : List (Nat × Nat × Opd)} : Opt (evP T (.buildSl false len size z ps)) P ↔ Opt (evps T ps) fun ps => Opt (fillV (rept len z) ps) fun cs => cs.length = len * size ∧ P (.sl (cs.map V.strip1) len (.cap len)) := by rw [evP_pure rfl, I_buildSl]
theorem pv_nilChk {T : Tm} {P : V → Prop} {x : Opd} : Opt (evP T (.nilChk x)) P ↔ Opt (x.ev T) fun v => Opt (nilChkV v) fun r => P r := by rw [evP_pure rfl, I_nilChk]
theorem pv_bin {T : Tm} {P : V → Prop} {op : BinOp} {x y : Opd} : Opt (evP T (.bin op x y)) P ↔ Opt (x.ev T) fun a => Opt (y.ev T) fun b => Opt (binV op a b) fun r => P r := by rw [evP_pure rfl, I_bin]
theorem pv_eq {T : Tm} {P : V → Prop} {ng : Bool} {c : EqC} {x y : Opd} : Opt (evP T (.eq ng c x y)) P ↔ Opt (x.ev T) fun a => Opt (y.ev T) fun b => Opt (eqV c a b) fun r => P (.lit (.bool (if ng then !r else r))) := by rw [evP_pure rfl, I_eq]
theorem pv_not {T : Tm} {P : V → Prop} {x : Opd} : Opt (evP T (.not x)) P ↔ Opt (x.ev T) fun v => Opt (notV v) fun r => P r := by rw [evP_pure rfl, I_not]
theorem pv_neg {T : Tm} {P : V → Prop} {x : Opd} : Opt (evP T (.neg x)) P ↔ Opt (x.ev T) fun v => Opt (negV v) fun r => P r := by rw [evP_pure rfl, I_neg]
theorem pv_conv {T : Tm} {P : V → Prop} {k : IntKind} {x : Opd} : Opt (evP T (.conv k x)) P ↔ Opt (x.ev T) fun v => Opt (convV k v) fun r => P r := by rw [evP_pure rfl, I_conv]
theorem pv_mkFn {T : Tm} {P : V → Prop} {f : FuncId} {a b : List Opd} : Opt (evP T (.mkFn f a b)) P ↔ Opt (evs T a) fun a => Opt (evs T b) fun b => P (.fn f a b) := by rw [evP_pure rfl, I_mkFn]
theorem pv_fAddr {T : Tm} {P : V → Prop} {off : Nat} {x : Opd} : Opt (evP T (.fAddr off x)) P ↔ Opt (x.ev T) fun v => Opt (fAddrV off v) fun r => P r := by rw [evP_pure rfl, I_fAddr]
theorem pv_fld {T : Tm} {P : V → Prop} {off : Nat} {n : Option Nat} {x : Opd} : Opt (evP T (.fld off n x)) P ↔ Opt (x.ev T) fun v => Opt (fldV off n v) fun r => P r := by rw [evP_pure rfl, I_fld]
theorem pv_iAddr {T : Tm} {P : V → Prop} {size : Nat} {x i : Opd} : Opt (evP T (.iAddr size x i)) P ↔ Opt (x.ev T) fun v => Opt (i.ev T) fun i => Opt (iAddrV size v i) fun r => P r := by rw [evP_pure rfl, I_iAddr]
theorem pv_iAddrA {T : Tm} {P : V → Prop} {len size : Nat} {x i : Opd} : Opt (evP T (.iAddrA len size x i)) P ↔ Opt (x.ev T) fun v => Opt (i.ev T) fun i => Opt (iAddrAV len size v i) fun r => P r := by rw [evP_pure rfl, I_iAddrA]
theorem pv_idxA {T : Tm} {P : V → Prop} {len size : Nat} {n : Option Nat} {x i : Opd} : Opt (evP T (.idxA len size n x i)) P ↔ Opt (x.ev T) fun v => Opt (i.ev T) fun i => Opt (idxAV len size n v i) fun r => P r := by rw [evP_pure rfl, I_idxA]
theorem pv_ext {T : Tm} {P : V → Prop} {x : Opd} {i : Nat} : Opt (evP T (.ext x i)) P ↔ Opt (x.ev T) fun v => Opt (extV i v) fun r => P r := by rw [evP_pure rfl, I_ext]
theorem pv_len {T : Tm} {P : V → Prop} {x : Opd} : Opt (evP T (.len .slice x)) P ↔ Opt (x.ev T) fun v => Opt (lenV v) fun n => P (.lit (.int .i64 n)) := by rw [evP_pure rfl, I_len]
theorem pv_lenS {T : Tm} {P : V → Prop} {x : Opd} : Opt (evP T (.len .str x)) P ↔ Opt (x.ev T) fun v => Opt (lenS v) fun n => P (.lit (.int .i64 n)) := by rw [evP_pure rfl, I_lenS]
theorem pv_mm {T : Tm} {P : V → Prop} {mx : Bool} {xs : List Opd} : Opt (evP T (.mm mx xs)) P ↔ Opt (evs T xs) fun vs => Opt (mmVs mx vs) fun r => P r := by rw [evP_pure rfl, I_mm]
theorem pv_sl {T : Tm} {P : V → Prop} {size : Nat} {x : Opd} {lo hi mx : Option Opd} : Opt (evP T (.sl size x lo hi mx)) P ↔ Opt (x.ev T) fun v => Opt (lenV v) fun n => Opt (bnd T n lo hi mx) fun r => Opt (slRes size v r) fun r => P r := by rw [evP_pure rfl, I_sl]
attribute [go_sem] pv_mov pv_pick pv_boxT pv_build pv_buildSl pv_nilChk pv_bin pv_eq pv_not pv_neg pv_conv pv_mkFn pv_fAddr pv_fld pv_iAddr pv_iAddrA pv_idxA pv_ext pv_len pv_lenS pv_mm pv_sl
attribute [go_sem] plainMov
theorem look_map {H : Heap} {kc : LitC} {z : V} {ok : Bool} {b : Nat} {k : Value} : lookV H kc z ok (.map b) (.lit k) = (mapAt H.blks b).bind fun es => (findE kc (.lit k) es).map fun r => match r with
    | some v => if ok then .tup [v, .lit (.bool true)] else v
    | none => if ok then .tup [z, .lit (.bool false)] else z := (rfl)
theorem mapUpd_map {H : Heap} {kc : LitC} {v : V} {b : Nat} {k : Value} : mapUpdV H kc v (.map b) (.lit k) = (mapAt H.blks b).bind fun es => (updE kc (.lit k) v.strip2 es).map fun es => H.write b (.map es) := (rfl)
theorem cells_map {b : Nat} : (V.map b).cells = [.map b] := (rfl)
theorem box_map {b : Nat} : boxable (.map b) = true := (rfl)
attribute [go_sem] look_map mapUpd_map cells_map box_map
theorem isCell_lit {v : Value} : (V.lit v).isCell = true := (rfl)
theorem isCell_sl {cs : List V} {n : Nat} {o : Own} : (V.sl cs n o).isCell = true := (rfl)
theorem isCell_imm {cs : List V} : (V.imm cs).isCell = true := (rfl)
theorem isCell_ref {b o : Nat} : (V.ref b o).isCell = true := (rfl)
theorem isCell_msl {b o n e : Nat} {c : Option Nat} : (V.msl b o n e c).isCell = true := (rfl)
theorem isCell_map {b : Nat} : (V.map b).isCell = true := (rfl)
theorem isCell_fn {f : FuncId} {a b : List V} : (V.fn f a b).isCell = true := (rfl)
attribute [go_sem] isCell_lit isCell_sl isCell_imm isCell_ref isCell_msl isCell_map isCell_fn
end Go.Ev
