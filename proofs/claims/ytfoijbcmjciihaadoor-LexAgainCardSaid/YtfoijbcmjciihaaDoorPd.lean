/- Plain laws: tokens in memory and tokens of a text. -/
import Derived.Test.YtfoijbcmjciihaaDoorSe
import Derived.Test.YtfoijbcmjciihaaDoorPb
set_option linter.unusedSimpArgs false
set_option linter.unusedVariables false
namespace Go.Proofs.YtfoijbcmjciihaaDoor
open Go.RowKit

def tokOf (t : Tkv) : LX.Tok := ⟨t.k.toNat, t.v, bts t.tx, t.p.toNat⟩

theorem tkv_tokOf {t : Tkv} (h : t.ok = true) : tkv (tokOf t) = t ∧ LX.Good (tokOf t) := by
  obtain ⟨k, v, tx, p⟩ := t
  obtain ⟨kk, pp, e1, e2, hg⟩ := LX.good_of_check h
  simp only [] at e1 e2
  subst e1 e2
  refine ⟨?_, hg⟩
  show Tkv.mk _ _ _ _ = _
  rw [show (tokOf ⟨kk, v, tx, pp⟩).text = bts tx from rfl, ofB_bts]
  rfl

theorem map_tokOf {ts : List Tkv} (h : ts.all Tkv.ok = true) : (ts.map tokOf).map tkv = ts ∧ ∀ u ∈ ts.map tokOf, LX.Good u := by
  rw [List.all_eq_true] at h
  constructor
  · rw [List.map_map]
    conv => rhs; rw [← List.map_id ts]
    exact List.map_congr_left fun t ht => (tkv_tokOf (h t ht)).1
  · intro u hu
    obtain ⟨t, ht, rfl⟩ := List.mem_map.1 hu
    exact (tkv_tokOf (h t ht)).2

theorem tkv_ok {u : LX.Tok} (h : LX.Good u) (hb : ∀ c ∈ u.text, c < 256) : (tkv u).ok = true := by
  have := LX.check_of_good h
  show LX.checkOf _ _ (bts (ofB u.text)) _ = true
  rw [bts_ofB hb]
  exact this

theorem bts_jn : ∀ (us : List LX.Tok), LX.Bt us → (jn (us.map tkv)).map UInt8.toNat = LX.jl us
  | [], _ => rfl
  | u :: r, h => by
    have e : ∀ t ∈ u :: r, ((ofB t.text).data.toList).map UInt8.toNat = t.text := fun t ht => bts_ofB (h t ht)
    show (((tkv u).tx.data.toList) ++ (r.map tkv).flatMap fun w => 32 :: w.tx.data.toList).map UInt8.toNat = u.text ++ r.flatMap fun w => 32 :: w.text
    rw [List.map_append]
    congr 1
    · exact e u List.mem_cons_self
    · have : ∀ q : List LX.Tok, (∀ t ∈ q, ((ofB t.text).data.toList).map UInt8.toNat = t.text) → ((q.map tkv).flatMap fun w => 32 :: w.tx.data.toList).map UInt8.toNat = q.flatMap fun w => 32 :: w.text := fun q => by
        induction q with
        | nil => intro _; rfl
        | cons t q ih =>
          intro hq
          rw [List.map_cons, List.flatMap_cons, List.flatMap_cons, List.map_append, ih fun x hx => hq x (List.mem_cons_of_mem _ hx)]
          congr 1
          show (32 : UInt8).toNat :: ((ofB t.text).data.toList).map UInt8.toNat = _
          rw [hq t List.mem_cons_self]
          rfl
      exact this r fun t ht => e t (List.mem_cons_of_mem _ ht)

theorem all_ok {us : List LX.Tok} (hg : ∀ u ∈ us, LX.Good u) (hb : LX.Bt us) : (us.map tkv).all Tkv.ok = true := by
  rw [List.all_eq_true]
  intro t ht
  obtain ⟨u, hu, rfl⟩ := List.mem_map.1 ht
  exact tkv_ok (hg u hu) (hb u hu)

/-- The joined text. -/
def jB (us : List LX.Tok) : ByteArray := ⟨(jn (us.map tkv)).toArray⟩

theorem joinB_good {us : List LX.Tok} (hg : ∀ u ∈ us, LX.Good u) (hb : LX.Bt us) : joinB (us.map tkv) = jB us := by
  unfold joinB
  rw [all_ok hg hb, if_pos rfl]
  rfl

theorem bts_jB {us : List LX.Tok} (hb : LX.Bt us) : bts (jB us) = LX.jl us := bts_jn us hb

theorem backs_bt {us : List LX.Tok} (hb : LX.Bt us) (p : Nat) : LX.Bt (LX.backs p us) := by
  intro t ht
  obtain ⟨i, hi⟩ := List.getElem?_of_mem ht
  obtain ⟨u, hu, e⟩ := LX.backs_get us p i t hi
  rw [e]
  exact hb u (List.mem_of_getElem? hu)

theorem jn_backs : ∀ (us : List LX.Tok) (p : Nat), jn ((LX.backs p us).map tkv) = jn (us.map tkv)
  | [], _ => rfl
  | u :: r, p => by
    have : ∀ (q : List LX.Tok) (p : Nat), ((LX.backs p q).map tkv).flatMap (fun w => 32 :: w.tx.data.toList) = (q.map tkv).flatMap fun w => 32 :: w.tx.data.toList := fun q => by
      induction q with
      | nil => intro _; rfl
      | cons t q ih =>
        intro p
        rw [LX.backs, List.map_cons, List.map_cons, List.flatMap_cons, List.flatMap_cons, ih]
        rfl
    show _ ++ ((LX.backs _ r).map tkv).flatMap (fun w => 32 :: w.tx.data.toList) = _
    rw [this]
    rfl

theorem jB_backs (us : List LX.Tok) (p : Nat) : jB (LX.backs p us) = jB us := by unfold jB; rw [jn_backs]

theorem sameT_backs : ∀ (us : List LX.Tok) (p : Nat), sameT ((LX.backs p us).map tkv) (us.map tkv) = true
  | [], _ => rfl
  | u :: r, p => by
    rw [LX.backs, List.map_cons, List.map_cons, sameT, sameT_backs r]
    simp [eqT, tkv]

theorem jB_size {us : List LX.Tok} (hb : LX.Bt us) : (jB us).size = (LX.jl us).length := by rw [← bts_length, bts_jB hb]
end Go.Proofs.YtfoijbcmjciihaaDoor
