/- The engine, part 21: the rules for 'simp'. -/
import Derived.Test.YtjljhmeadfejhaaE20
set_option linter.unusedVariables false
set_option linter.unusedSimpArgs false
namespace Go.Eng
attribute [simp] R_skip R_seq R_block R_exit R_ret R_reg R_loop R_cond Q_seq Q_blk Q_lp X_seq X_blk X_lp T_seq T_blk T_lp Q_nil T_nil O_nil O_pl N1_t N1_f O_call CL_t CL_f J_ok R_regD OD_call CD_t CD_f OS_nil OS_pl NS_t NS_f OS_call CS_t CS_f OD_nil OD_pl' ND_t ND_f
  lk_cons lk_nil put_some put_none ev_t ev_c ev_m bindM lookM keepF_nil keepF_cons kcons_some kcons_none gd_none gd_some argF_nil argF_cons nrmL nrm evP P0 loadA cellsAt storeA setL nilEq eqA binA binI shI binS unA elems iaA_ keyEq findA updA isKey lenA bnd1
  ro roL evRV evRVs packR cellEq cellsEq

@[simp] theorem cells_agg (cs : List AV) : (AV.agg cs).cells = cs := rfl
@[simp] theorem one_agg (cs : List AV) : (AV.agg cs).one = false := rfl
@[simp] theorem cells_undef  : AV.undef.cells = [AV.undef] := rfl
@[simp] theorem one_undef  : AV.undef.one = false := rfl
@[simp] theorem cells_bool (b : Bool) : (AV.bool b).cells = [(AV.bool b)] := rfl
@[simp] theorem one_bool (b : Bool) : (AV.bool b).one = true := rfl
@[simp] theorem cells_int (k : IntKind) (n : Int) : (AV.int k n).cells = [(AV.int k n)] := rfl
@[simp] theorem one_int (k : IntKind) (n : Int) : (AV.int k n).one = true := rfl
@[simp] theorem cells_str (s : ByteArray) : (AV.str s).cells = [(AV.str s)] := rfl
@[simp] theorem one_str (s : ByteArray) : (AV.str s).one = true := rfl
@[simp] theorem cells_nilp  : AV.nilp.cells = [AV.nilp] := rfl
@[simp] theorem one_nilp  : AV.nilp.one = true := rfl
@[simp] theorem cells_ptr (i : Nat) (o : Nat) : (AV.ptr i o).cells = [(AV.ptr i o)] := rfl
@[simp] theorem one_ptr (i : Nat) (o : Nat) : (AV.ptr i o).one = true := rfl
@[simp] theorem cells_rptr (cs : List AV) : (AV.rptr cs).cells = [(AV.rptr cs)] := rfl
@[simp] theorem one_rptr (cs : List AV) : (AV.rptr cs).one = true := rfl
@[simp] theorem cells_esl  : AV.esl.cells = [AV.esl] := rfl
@[simp] theorem one_esl  : AV.esl.one = true := rfl
@[simp] theorem cells_rsl (es : List AV) : (AV.rsl es).cells = [(AV.rsl es)] := rfl
@[simp] theorem one_rsl (es : List AV) : (AV.rsl es).one = true := rfl
@[simp] theorem cells_osl (t : Nat) (es : List AV) : (AV.osl t es).cells = [(AV.osl t es)] := rfl
@[simp] theorem one_osl (t : Nat) (es : List AV) : (AV.osl t es).one = true := rfl
@[simp] theorem cells_msl (a : Nat) (b : Nat) (c : Nat) (d : Nat) : (AV.msl a b c d).cells = [(AV.msl a b c d)] := rfl
@[simp] theorem one_msl (a : Nat) (b : Nat) (c : Nat) (d : Nat) : (AV.msl a b c d).one = true := rfl
@[simp] theorem cells_nilmap  : AV.nilmap.cells = [AV.nilmap] := rfl
@[simp] theorem one_nilmap  : AV.nilmap.one = true := rfl
@[simp] theorem cells_map (i : Nat) : (AV.map i).cells = [(AV.map i)] := rfl
@[simp] theorem one_map (i : Nat) : (AV.map i).one = true := rfl
@[simp] theorem cells_fn (g : FuncId) (fs : List AV) (cs : List AV) : (AV.fn g fs cs).cells = [(AV.fn g fs cs)] := rfl
@[simp] theorem one_fn (g : FuncId) (fs : List AV) (cs : List AV) : (AV.fn g fs cs).one = true := rfl
@[simp] theorem cells_nilfn  : AV.nilfn.cells = [AV.nilfn] := rfl
@[simp] theorem one_nilfn  : AV.nilfn.one = true := rfl
@[simp] theorem cells_iface (t : TypeId) (x : AV) : (AV.iface t x).cells = [(AV.iface t x)] := rfl
@[simp] theorem one_iface (t : TypeId) (x : AV) : (AV.iface t x).one = true := rfl
@[simp] theorem cells_nilif  : AV.nilif.cells = [AV.nilif] := rfl
@[simp] theorem one_nilif  : AV.nilif.one = true := rfl
@[simp] theorem cells_tup (xs : List AV) : (AV.tup xs).cells = [(AV.tup xs)] := rfl
@[simp] theorem one_tup (xs : List AV) : (AV.tup xs).one = false := rfl
@[simp] theorem natlt0 (i : Nat) : ((i : Int) < 0) = False := by simp
@[simp] theorem get_app (h l : List AO) (k : Nat) : (h ++ l)[h.length + k]? = l[k]? := by
  rw [List.getElem?_append_right (by omega)]; congr 1; omega
@[simp] theorem get_app0 (h l : List AO) : (h ++ l)[h.length]? = l[0]? := get_app h l 0
@[simp] theorem set_app (h l : List AO) (k : Nat) (o : AO) : (h ++ l).set (h.length + k) o = h ++ l.set k o := by
  rw [List.set_append_right _ _ (by omega)]; congr 2; omega
@[simp] theorem set_app0 (h l : List AO) (o : AO) : (h ++ l).set h.length o = h ++ l.set 0 o := set_app h l 0 o
theorem take_app (h l : List AO) (k : Nat) : (h ++ l).take (h.length + k) = h ++ l.take k := by
  rw [List.take_append, List.take_of_length_le (by omega)]; congr 2; omega
theorem drop_ok (h l : List AO) (k : Nat) (H : (l.take k).all (AO.bel (h.length + k)) = true) : DropOk h (h ++ l) (h.length + k) := by
  refine ⟨by omega, fun i o hi ho => ?_⟩
  by_cases hlt : i < h.length
  · rw [List.getElem?_append_left hlt] at ho; exact .inl ho
  · rw [List.getElem?_append_right (by omega)] at ho
    refine .inr ((List.all_eq_true.1 H) o ?_)
    refine List.mem_of_getElem? (i := i - h.length) ?_
    rw [List.getElem?_take, if_pos (by omega)]; exact ho
/-- Objects are forgotten ahead of a round. -/
theorem lp_cut {P : Pg} {h l : List AO} {res : List ARV} {K : ARes → List AO → Prop} {keep : List Nat} {a : AC} {k : List KI} {f f' : Fr} (n : Nat) (H : (l.take n).all (AO.bel (h.length + n)) = true)
    (hf : outF (h.length + n) (h ++ l) 3 (keepF keep f) = some f') (L : LP ⟨P, h, res, K⟩ keep a k f' (h ++ l.take n)) : LP ⟨P, h, res, K⟩ keep a k f (h ++ l) :=
  lp_drop (C := ⟨P, h, res, K⟩) (m := h.length + n) (j := 3) (drop_ok h l n H) hf (by rw [take_app]; exact L)
attribute [simp] outF out mapO
end Go.Eng
