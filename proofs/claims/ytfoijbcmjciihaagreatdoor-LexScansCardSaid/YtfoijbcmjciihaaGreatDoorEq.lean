/- Two tokens are compared. -/
import Derived.Test.YtfoijbcmjciihaaGreatDoorF
import Derived.Laws.StructEq
set_option linter.unusedSimpArgs false
set_option linter.unusedVariables false
namespace Go.Proofs.YtfoijbcmjciihaaGreatDoor
open Go.RowKit

theorem fields39 : (Tryz.prog.fieldsOf 42).toList.map (fun f => (f.name, f.type, f.offset)) = [("Kind", 3, 0), ("Num", 3, 1), ("Text", 9, 2), ("At", 3, 3)] := by kernel_rfl

theorem eqFields_map (d : Nat) (xs ys : Array Value) : ∀ (fs gs : List Field), fs.map (fun f => (f.name, f.type, f.offset)) = gs.map (fun f => (f.name, f.type, f.offset)) → Op.eqFields d xs ys fs = Op.eqFields d xs ys gs
  | [], [], _ => rfl
  | [], _ :: _, h => by cases h
  | _ :: _, [], h => by cases h
  | f :: fs, g :: gs, h => by
    simp only [List.map_cons, List.cons.injEq, Prod.mk.injEq] at h
    obtain ⟨⟨h1, h2, h3⟩, h4⟩ := h
    unfold Op.eqFields
    rw [h1, h2, h3, eqFields_map d xs ys fs gs h4]

theorem eq39 (m : World) (k v p k' v' p' : Int) (t t' : ByteArray) : (Op.equalIn Op.maxDepth 42 (tokV k v t p) (tokV k' v' t' p')).run Tryz.prog m = .ok (k == k' && (v == v' && (t == t' && p == p'))) m := by
  have h := run_equalIn_struct (P := Tryz.prog) m 9999 42 #[.int .i64 k, .int .i64 v, .string t, .int .i64 p] #[.int .i64 k', .int .i64 v', .string t', .int .i64 p'] (by kernel_rfl) (by kernel_rfl)
  refine h.trans ?_
  have hm := fields39
  generalize (Tryz.prog.fieldsOf 42).toList = fs at hm ⊢
  rcases fs with _ | ⟨f0, _ | ⟨f1, _ | ⟨f2, _ | ⟨f3, _ | ⟨f4, r⟩⟩⟩⟩⟩ <;> simp only [List.map_cons, List.map_nil, List.cons.injEq, Prod.mk.injEq, and_true, reduceCtorEq, and_false] at hm
  obtain ⟨⟨a0, a1, a2⟩, ⟨b0, b1, b2⟩, ⟨c0, c1, c2⟩, d0, d1, d2⟩ := hm
  have u3 : Tryz.prog.underlying 3 = some (.int .i64) := by kernel_rfl
  have u9 : Tryz.prog.underlying 9 = some .string := by kernel_rfl
  have e3 := fun (a b : Int) => run_equalIn_int m 9998 3 .i64 .i64 a b u3
  have e9 := fun (a b : ByteArray) => run_equalIn_string m 9998 9 a b u9
  simp [Op.eqFields, a0, a1, a2, b0, b1, b2, c0, c1, c2, d0, d1, d2, part, Sem.run_bind, e3, e9]
  rw [beq_toListBytes]
  by_cases h1 : k = k' <;> by_cases h2 : v = v' <;> by_cases h3 : t.toList = t'.toList <;> by_cases h4 : p = p' <;> simp [h1, h2, h3, h4]
end Go.Proofs.YtfoijbcmjciihaaGreatDoor
