/- Kind, IsName, Plain: walked. -/
import Derived.Test.YtnkahlloahgifaaGreatDoorLxN
import Derived.Lib.SlicesS
set_option linter.unusedSimpArgs false
set_option linter.unusedVariables false
namespace Go.Proofs.YtnkahlloahgifaaGreatDoor.Lx
namespace LX
/-- The kind of the one token that a text is. -/
def kindOf (l : List Nat) : Nat := if 24 < l.length then 0 else match scan l with
  | .ok [t] _ => if t.text = l then t.kind else 0
  | _ => 0

/-- Tokens of bytes. -/
def Bt (ts : List Tok) : Prop := ∀ t ∈ ts, ∀ c ∈ t.text, c < 256

theorem sc_bytes (T : List Nat) (hT : ∀ c ∈ T, c < 256) : ∀ (n j : Nat), T.length - j = n → ∀ ts cs, sc T j = .ok ts cs → Bt ts := by
  intro n
  induction n using Nat.strongRecOn with
  | ind n ih =>
    intro j hn ts cs h
    rcases Nat.lt_or_ge j T.length with hj | hj
    · rw [sc_step hj] at h
      split at h
      · exact ih _ (by omega) (j + 1) rfl ts cs h
      · split at h
        · cases hc : cmt (T.drop j) 0 0 with
          | fin m =>
            rw [hc] at h
            simp only [] at h
            have h0 := cmt_fin hc
            cases hs : sc T (j + m) with
            | ok t2 c2 =>
              rw [hs] at h
              simp only [Res.app, Res.ok.injEq, List.nil_append] at h
              rw [← h.1]
              exact ih _ (by omega) (j + m) rfl t2 c2 hs
            | bad p e => rw [hs] at h; cases h
          | deep m => rw [hc] at h; cases h
          | never => rw [hc] at h; cases h
        · cases hc : token (T.drop j) with
          | tok k v m =>
            rw [hc] at h
            simp only [] at h
            have h0 := token_len hc
            cases hs : sc T (j + m) with
            | ok t2 c2 =>
              rw [hs] at h
              simp only [Res.app, Res.ok.injEq, List.cons_append, List.nil_append] at h
              rw [← h.1]
              intro t ht
              rcases List.mem_cons.1 ht with rfl | ht
              · intro c hc
                exact hT c (List.mem_of_mem_drop (List.mem_of_mem_take hc))
              · exact ih _ (by omega) (j + m) rfl t2 c2 hs t ht
            | bad p e => rw [hs] at h; cases h
          | bad e => rw [hc] at h; cases h
    · rw [sc_end hj] at h
      cases h
      intro t ht
      cases ht

theorem token_bad {l : List Nat} {e : Nat} (h : token l = .bad e) : e = 2 ∨ e = 11 ∨ e = 13 := by
  have hm : ∀ k n, made k n = .bad e → e = 2 := fun k n h => by
    unfold made at h
    split at h
    · cases h; rfl
    · cases h
  have hn : ∀ k, named k l = .bad e → e = 2 := fun k h => by
    unfold named at h
    cases hq : made k (nameLen l) with
    | bad e2 => rw [hq] at h; cases h; exact hm _ _ hq
    | tok a b c => rw [hq] at h; cases h
  cases l with
  | nil => cases h; exact .inr (.inl rfl)
  | cons c t =>
    unfold token at h
    simp only [] at h
    split at h
    · unfold number at h
      simp only [] at h
      split at h
      · cases h; exact .inr (.inr rfl)
      · split at h
        · cases h
        · split at h
          · cases h; exact .inr (.inr rfl)
          · cases h
    · split at h
      · exact .inl (hn _ h)
      · split at h
        · exact .inl (hn _ h)
        · split at h
          · exact .inl (hm _ _ h)
          · split at h
            · cases h
            · split at h
              · cases h
              · cases h; exact .inr (.inl rfl)

theorem cmt_deep_lt : ∀ (l : List Nat) (d n m : Nat), cmt l d n = .deep m → n ≤ m ∧ m < n + l.length
  | [], _, _, _, h => by cases h
  | [_], _, _, _, h => by cases h
  | a :: b :: t, d, n, m, h => by
    rw [cmt] at h
    simp only [List.length_cons]
    split at h
    · split at h
      · cases h; omega
      · have := cmt_deep_lt t _ _ _ h; omega
    · split at h
      · split at h
        · cases h
        · have := cmt_deep_lt t _ _ _ h; omega
      · have := cmt_deep_lt (b :: t) _ _ _ h
        simp only [List.length_cons] at this
        omega

theorem sc_bad (T : List Nat) : ∀ (n j : Nat), T.length - j = n → ∀ p e, sc T j = .bad p e → (e = 2 ∨ e = 6 ∨ e = 11 ∨ e = 12 ∨ e = 13) ∧ j ≤ p ∧ p < T.length := by
  intro n
  induction n using Nat.strongRecOn with
  | ind n ih =>
    intro j hn p e h
    rcases Nat.lt_or_ge j T.length with hj | hj
    · rw [sc_step hj] at h
      split at h
      · have := ih _ (by omega) (j + 1) rfl p e h
        exact ⟨this.1, by omega, this.2.2⟩
      · split at h
        · cases hc : cmt (T.drop j) 0 0 with
          | fin m =>
            rw [hc] at h
            simp only [] at h
            have h0 := cmt_fin hc
            cases hs : sc T (j + m) with
            | ok t2 c2 => rw [hs] at h; cases h
            | bad p2 e2 =>
              rw [hs] at h
              simp only [Res.app, Res.bad.injEq] at h
              obtain ⟨rfl, rfl⟩ := h
              have := ih _ (by omega) (j + m) rfl p2 e2 hs
              exact ⟨this.1, by omega, this.2.2⟩
          | deep m =>
            rw [hc] at h
            simp only [Res.bad.injEq] at h
            obtain ⟨rfl, rfl⟩ := h
            have := cmt_deep_lt _ _ _ _ hc
            rw [List.length_drop] at this
            exact ⟨.inr (.inl rfl), by omega, by omega⟩
          | never =>
            rw [hc] at h
            simp only [Res.bad.injEq] at h
            obtain ⟨rfl, rfl⟩ := h
            exact ⟨.inr (.inr (.inr (.inl rfl))), by omega, by omega⟩
        · cases hc : token (T.drop j) with
          | tok k v m =>
            rw [hc] at h
            simp only [] at h
            have h0 := token_len hc
            cases hs : sc T (j + m) with
            | ok t2 c2 => rw [hs] at h; cases h
            | bad p2 e2 =>
              rw [hs] at h
              simp only [Res.app, Res.bad.injEq] at h
              obtain ⟨rfl, rfl⟩ := h
              have := ih _ (by omega) (j + m) rfl p2 e2 hs
              exact ⟨this.1, by omega, this.2.2⟩
          | bad e2 =>
            rw [hc] at h
            simp only [Res.bad.injEq] at h
            obtain ⟨rfl, rfl⟩ := h
            refine ⟨?_, by omega, by omega⟩
            rcases token_bad hc with h | h | h
            · exact .inl h
            · exact .inr (.inr (.inl h))
            · exact .inr (.inr (.inr (.inr h)))
    · rw [sc_end hj] at h
      cases h

theorem scan_bad {T : List Nat} {p e : Nat} (h : scan T = .bad p e) : (e = 2 ∨ e = 6 ∨ e = 11 ∨ e = 12 ∨ e = 13) ∧ p < T.length :=
  ⟨(sc_bad T _ 0 rfl p e h).1, (sc_bad T _ 0 rfl p e h).2.2⟩

end LX
open Go.RowKit

theorem bts_small (s : ByteArray) : ∀ c ∈ bts s, c < 256 := by
  intro c hc
  unfold bts at hc
  obtain ⟨u, _, rfl⟩ := List.mem_map.1 hc
  exact u.toNat_lt

theorem bts_ofB {l : List Nat} (h : ∀ c ∈ l, c < 256) : bts (ofB l) = l := by
  unfold bts ofB
  simp only [List.map_map]
  conv => rhs; rw [← List.map_id l]
  refine List.map_congr_left fun c hc => ?_
  simp only [Function.comp, id]
  rw [UInt8.toNat_ofNat']
  exact Nat.mod_eq_of_lt (h c hc)

theorem scan_bytes (s : ByteArray) : LX.Bt (LX.scan (bts s)).toks := by
  cases h : LX.scan (bts s) with
  | ok ts cs => exact LX.sc_bytes (bts s) (bts_small s) _ 0 rfl ts cs h
  | bad p e => intro t ht; cases ht

/-- The cells of a row. -/
theorem owns_cells {w : World} {base e size n : Nat} {a : Option Addr} {c : Nat} {xs : List Value} (h : w.ownsRow base e size (.slice a n c) n xs) (hn : 0 < n) :
    ∃ g, a = some ⟨g, 0, none⟩ ∧ base ≤ g ∧ g < w.heap.size ∧ n ≤ c ∧ ∀ j u, xs[j]? = some u → w.cell? ⟨g, j, none⟩ = some u := by
  rcases h.2 with ⟨hv, h0⟩ | ⟨g, cap, cur, hv, hb, hg, hnc, _, hcs, htake⟩
  · omega
  · simp only [Value.slice.injEq] at hv
    obtain ⟨rfl, _, rfl⟩ := hv
    refine ⟨g, rfl, hb, (Array.getElem?_eq_some_iff.1 hg).1, hnc, fun j u hu => ?_⟩
    have hj : j < n * size := by rw [← h.1]; exact (List.getElem?_eq_some_iff.1 hu).1
    rw [cell_of_row w g j cur e (0, 0) hg, ← Array.getElem?_toList]
    rw [← htake, List.getElem?_take, if_pos hj] at hu
    exact hu

def KPost (w : World) (s : ByteArray) (e : Ending) (w' : World) : Prop := e = .returned (.int .i64 (LX.kindOf (bts s))) ∧ Below w.heap.size w w'

set_option maxHeartbeats 400000 in
set_option maxRecDepth 20000 in
theorem kind_any {w : World} (henv : Env w) (s : ByteArray) (hmax : s.size ≤ 9223372036854775807) : Calls Tryz.prog 117 #[.string s] w (KPost w s) := by
  obtain ⟨r, hr⟩ : ∃ r, r = LX.kindOf (bts s) := ⟨_, rfl⟩
  unfold KPost
  rw [← hr]
  unfold LX.kindOf at hr
  rw [bts_length] at hr
  by_cases hs : 24 < s.size
  · rw [if_pos hs] at hr
    subst hr
    have hz : (24 : Int) < (s.size : Int) := by omega
    clear hs
    go_enter Tryz.func117, Tryz.ntmps117
    go_wp2_with fail
    go_ret
    exact ⟨rfl, Below.refl _ _⟩
  · rw [if_neg hs] at hr
    have hz : (s.size : Int) ≤ 24 := by omega
    have SC := Lib.hid (scanned_any henv s (by omega))
    have BY := Lib.hid (scan_bytes s)
    have HR := Lib.hid hr
    clear hs hr
    go_enter Tryz.func117, Tryz.ntmps117
    go_wp2_with fail
    refine SC.out.mono ?_
    intro e w1 hp
    unfold SPost at hp
    cases hq : LX.scan (bts s) with
    | bad p er =>
      rw [hq] at hp
      have h0 : r = 0 := by rw [HR.out, hq]
      subst h0
      obtain ⟨b, rfl, hb⟩ := hp
      have HB := Lib.hid hb
      clear hb
      have he := (LX.scan_bad hq).1
      have e1 : ((er : Int) != 0) = true := by simp; omega
      have e2 : ((er : Int) == 0) = false := by simp; omega
      clear he hq HR
      go_wp2_with fail
      go_ret
      exact ⟨rfl, HB.out.trans ((Below.refl _ _).alloc HB.out.size _)⟩
    | ok ts cs =>
      rw [hq] at hp
      obtain ⟨b, mb, i, cv, tv, rfl, _, _, hrow, hb, _, _⟩ := hp
      obtain ⟨a, c, rfl⟩ := owns_slice hrow
      have HB := Lib.hid hb
      clear hb
      match ts, hq, hrow with
      | [], hq, hrow =>
        have h0 : r = 0 := by rw [HR.out, hq]
        subst h0
        clear hq HR hrow
        go_wp2_with fail
        go_ret
        exact ⟨rfl, HB.out.trans ((Below.refl _ _).alloc HB.out.size _)⟩
      | [t], hq, hrow =>
        have h0 : r = if t.text = bts s then t.kind else 0 := by rw [HR.out, hq]
        have ht : bts (ofB t.text) = t.text := by
          have h1 := BY.out
          rw [hq] at h1
          exact bts_ofB (h1 t (List.mem_singleton_self _))
        obtain ⟨g, rfl, hbg, hlt, hcap, hcells⟩ := owns_cells hrow (Nat.succ_pos 0)
        obtain ⟨V, hV⟩ : ∃ V, V = w1.alloc (.cells #[.int .i64 0, .int .i64 0] 203) := ⟨_, rfl⟩
        have kb : ∀ q, V.cell? ⟨g, q, none⟩ = w1.cell? ⟨g, q, none⟩ := fun q => by
          have : V.heap[g]? = w1.heap[g]? := by rw [hV]; exact Below.heap_alloc _ _ _ hlt
          rw [World.cell?_of_block this]
        have z0 : V.cell? ⟨g, 0, none⟩ = some (.int .i64 t.kind) := (kb 0).trans (hcells 0 _ rfl)
        have z2 : V.cell? ⟨g, 2, none⟩ = some (.string (ofB t.text)) := (kb 2).trans (hcells 2 _ rfl)
        have hc1 : (1 : Nat) ≤ c := hcap
        have v0 : V.cell? ⟨w1.heap.size, 0, none⟩ = some (.int .i64 0) := by rw [hV]; simp
        have v1 : V.cell? ⟨w1.heap.size, 1, none⟩ = some (.int .i64 0) := by rw [hV]; simp
        have HV := Lib.hid hV
        have BV : Hid (Below w.heap.size w V) := by rw [hV]; exact HB.out.trans ((Below.refl _ _).alloc HB.out.size _)
        have HT := Lib.hid ht
        have HC := Lib.hid hcap
        have H0 := Lib.hid h0
        obtain ⟨tx, htx⟩ : ∃ x, x = ofB t.text := ⟨_, rfl⟩
        rw [← htx] at z2
        have TX := Lib.hid htx
        clear hq HR hrow hbg hcells kb hV ht h0 hcap htx
        go_upto_region 4 with (fail)
        rw [← HV.out]
        by_cases hsame : tx = s
        · have hb : (tx.toList == s.toList) = true := (Lib.bytes_beq_iff _ _).2 hsame
          have hr : r = t.kind := by rw [H0.out, if_pos (by rw [← HT.out, ← TX.out, hsame])]
          have HRR := Lib.hid hr
          clear hsame hr
          go_wp2_with fail
          go_ret
          exact ⟨by rw [HRR.out]; rfl, BV.out⟩
        · have hb : (tx.toList == s.toList) = false := (Lib.bytes_beq_false_iff _ _).2 hsame
          have hr : r = 0 := by rw [H0.out, if_neg (fun e => hsame (by rw [TX.out]; exact bts_inj (by rw [HT.out, e])))]
          have HRR := Lib.hid hr
          clear hsame hr
          go_wp2_with fail
          go_ret
          exact ⟨by rw [HRR.out]; rfl, BV.out⟩
      | t :: u :: ts, hq, hrow =>
        have h0 : r = 0 := by rw [HR.out, hq]
        subst h0
        obtain ⟨tn, htn⟩ : ∃ n, n = (t :: u :: ts).length := ⟨_, rfl⟩
        have h1 : ((tn : Int) != 1) = true := by rw [htn]; simp; omega
        have h2 : ((tn : Int) == 1) = false := by rw [htn]; simp; omega
        rw [← htn]
        clear hq HR hrow htn
        go_wp2_with fail
        go_ret
        exact ⟨rfl, HB.out.trans ((Below.refl _ _).alloc HB.out.size _)⟩
end Go.Proofs.YtnkahlloahgifaaGreatDoor.Lx
