/- Tokens in memory, one at a time; where they end. -/
import Derived.Test.YtfoijbcmjciihaaGreatDoorJn
import Derived.Test.YtfoijbcmjciihaaGreatDoorPn
import Derived.Test.YtfoijbcmjciihaaGreatDoorEq
set_option linter.unusedSimpArgs false
set_option linter.unusedVariables false
namespace Go.Proofs.YtfoijbcmjciihaaGreatDoor
open Go.RowKit

theorem eq39t (m : World) (k v p : Int) (t : ByteArray) : (Op.equalIn Op.maxDepth 42 (.agg #[.int .i64 k, .int .i64 v, .string t, .int .i64 p]) (.agg #[.int .i64 k, .int .i64 v, .string t, .int .i64 p])).run Tryz.prog m = .ok true m := by
  have := eq39 m k v p k v p t t
  unfold tokV at this
  rw [this, beq_toListBytes]; simp

theorem eq39p (m : World) (k v p p' : Int) (t : ByteArray) (h : p = p') : (Op.equalIn Op.maxDepth 42 (.agg #[.int .i64 k, .int .i64 v, .string t, .int .i64 p]) (.agg #[.int .i64 k, .int .i64 v, .string t, .int .i64 p'])).run Tryz.prog m = .ok true m := by
  subst h; exact eq39t m k v p t

theorem tks_get {W : World} {ad : Option Addr} {n c : Nat} {ts : List LX.Tok} (h : TkS W (.slice ad n c) (ts.map tkv)) {i : Nat} {t : LX.Tok} (ht : ts[i]? = some t) : ∃ g off, ad = some ⟨g, off, none⟩ ∧
    W.cell? ⟨g, off + i * 4, none⟩ = some (.int .i64 t.kind) ∧ W.cell? ⟨g, off + i * 4 + 1, none⟩ = some (.int .i64 t.num) ∧ W.cell? ⟨g, off + i * 4 + 2, none⟩ = some (.string (ofB t.text)) ∧ W.cell? ⟨g, off + i * 4 + 3, none⟩ = some (.int .i64 t.place) := by
  obtain ⟨a, c', he, _, h2⟩ := h.shape
  simp only [Value.slice.injEq] at he
  obtain ⟨rfl, _, _⟩ := he
  obtain ⟨g, off, rfl, _, h3⟩ := h2 (fun e => by rw [List.map_eq_nil_iff] at e; rw [e] at ht; cases ht)
  exact ⟨g, off, rfl, h3 i (tkv t) (by rw [List.getElem?_map, ht]; rfl)⟩

theorem tks_lt {W : World} {g off n c : Nat} {ts : List LX.Tok} (h : TkS W (.slice (some ⟨g, off, none⟩) n c) (ts.map tkv)) {i : Nat} {t : LX.Tok} (ht : ts[i]? = some t) : g < W.heap.size := by
  obtain ⟨a, c', he, _, h2⟩ := h.shape
  simp only [Value.slice.injEq] at he
  obtain ⟨rfl, _, _⟩ := he
  obtain ⟨g', off', he, hl, _⟩ := h2 (fun e => by rw [List.map_eq_nil_iff] at e; rw [e] at ht; cases ht)
  simp only [Option.some.injEq, Addr.mk.injEq] at he
  rw [he.1]; exact hl

namespace LX
theorem lies_end {S T : List Nat} : ∀ {ts : List Tok} {j : Nat}, Lies S T j ts → ∀ t ∈ ts, t.place + t.text.length ≤ T.length
  | [], _, _, _, ht => by cases ht
  | u :: ts, j, h, t, ht => by
    obtain ⟨_, h2, _, _, _, h6⟩ := h
    rcases List.mem_cons.1 ht with rfl | ht
    · exact h2
    · exact lies_end h6 t ht
end LX
end Go.Proofs.YtfoijbcmjciihaaGreatDoor
