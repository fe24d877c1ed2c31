/- Short names. -/
import Derived.Lib.Hide
namespace Go.Proofs.YtnkahlloahgifaaGreatDoor
theorem zh {p : Prop} (h : p) : Go.RowKit.Hid p := Go.Lib.hid h
theorem zq1 : type_of% @List.getElem_toArray := @List.getElem_toArray
theorem zq2 : type_of% @List.getElem_cons_zero := @List.getElem_cons_zero
theorem zq3 : type_of% @List.getElem_cons_succ := @List.getElem_cons_succ
theorem zq4 : type_of% @List.setIfInBounds_toArray := @List.setIfInBounds_toArray
theorem zq5 : type_of% @List.set_cons_zero := @List.set_cons_zero
theorem zq6 : type_of% @List.set_cons_succ := @List.set_cons_succ
theorem zq7 : type_of% @Array.getElem?_eq_some_iff := @Array.getElem?_eq_some_iff
theorem zq8 : type_of% @List.getElem?_eq_some_iff := @List.getElem?_eq_some_iff
theorem zq9 : type_of% @List.getElem?_eq_getElem := @List.getElem?_eq_getElem
theorem zr1 : type_of% @List.mem_of_getElem? := @List.mem_of_getElem?
theorem zr2 : type_of% @List.length_append := @List.length_append
theorem zr3 : type_of% @List.take_of_length_le := @List.take_of_length_le
theorem zr4 : type_of% @Nat.le_refl := @Nat.le_refl
theorem zr5 : type_of% @Nat.le_trans := @Nat.le_trans
theorem zr6 : type_of% @List.mem_append_left := @List.mem_append_left
theorem zr7 : type_of% @List.mem_cons_self := @List.mem_cons_self
theorem zr8 : type_of% @List.mem_cons_of_mem := @List.mem_cons_of_mem
theorem zv1 : type_of% @List.length_map := @List.length_map
theorem zv2 : type_of% @List.length_cons := @List.length_cons
theorem zv3 : type_of% @Nat.zero_le := @Nat.zero_le
theorem zt3 : type_of% @Option.some.injEq := @Option.some.injEq
theorem zt4 : type_of% @List.getD_eq_getElem?_getD := @List.getD_eq_getElem?_getD
theorem zt5 : type_of% @Nat.lt_of_lt_of_le := @Nat.lt_of_lt_of_le
theorem zt6 : type_of% @beq_false_of_ne := @beq_false_of_ne
end Go.Proofs.YtnkahlloahgifaaGreatDoor
