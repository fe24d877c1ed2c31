/- The map of handles; roots. -/
import Derived.Test.YtfjgokbclgdfjaaD
set_option linter.unusedSimpArgs false
set_option linter.unusedVariables false
namespace Go.Proofs.Ytfjgokbclgdfjaa
open Go.RowKit HM

theorem ptrR_of {v : Value} {b : Int} {ps : List MemPlace} (h : ptrR v = some (.lit (.int .i64 b), ps)) : ∃ c : Nat, b = c ∧ v = .pointer (some ⟨c, 0, none⟩) := by
  unfold ptrR at h
  split at h
  · simp at h; exact ⟨_, h.1.symm, rfl⟩
  · simp at h
  · simp at h

theorem ptrR_nil {v : Value} {ps : List MemPlace} (h : ptrR v = some (.nil, ps)) : v = .pointer none := by
  unfold ptrR at h
  split at h
  · simp at h
  · rfl
  · simp at h

theorem zero83 (w : World) : (zeroValue 83).run Try.prog w = .ok (.pointer none) w := by
  obtain ⟨i, hi, hz, _, _⟩ := info_parts Try.info83
  simp [zeroValue, typeInfo, hi, hz]

theorem keyed3 : Maps.Keyed Try.prog 3 := Maps.int_keyed Try.underlying3
theorem wf3 (n : Int) (h : -9223372036854775808 ≤ n ∧ n ≤ 9223372036854775807) : (Lit.int .i64 n).wf = true := by simp [Lit.wf, IntKind.min, IntKind.max, IntKind.signed, IntKind.bits]; omega
theorem key3 (n : Int) (h : -9223372036854775808 ≤ n ∧ n ≤ 9223372036854775807) : keyOf Try.prog 3 (.int .i64 n) = some (.int .i64 n) := Maps.keyOf_int_mk Try.underlying3 (wf3 n h)

/-- The object of a handle. -/
def atH (hs : List (Option Nat)) (n : Int) : Option Nat := if n < 0 then none else hs.getD n.toNat none

theorem atH_nat (hs : List (Option Nat)) (n : Nat) : atH hs (n : Int) = hs.getD n none := by simp [atH]; omega

/-- What 'o, is := handles[n]' answers. -/
def found (A : Ad) : Option Nat → Value
  | some i => .tuple #[A.ptr i, .bool true]
  | none => .tuple #[.pointer none, .bool false]

theorem run_lookup {w : World} {A : Ad} {hs : List (Option Nat)} (h : MapAt w A.mb A.obj hs) (n : Int) (hn : -9223372036854775808 ≤ n ∧ n ≤ 9223372036854775807) :
    (Instr.lookup 41 (.map (some A.mb)) (.int .i64 n) true).run Try.prog w = .ok (found A (atH hs n)) w := by
  obtain ⟨D, hD, hsz, h1, h2⟩ := h
  obtain ⟨v, ps, hrun, hv⟩ := hD.look_ok keyed3 Try.underlying41 (zero83 w) (zd := .nil) (zp := []) rfl (key3 n hn)
  rw [hrun]
  cases ha : atH hs n with
  | none =>
    have hf : Maps.has D (.int .i64 n) = false := by
      cases hq : Maps.has D (.int .i64 n) with
      | false => rfl
      | true =>
        obtain ⟨j, i, rfl, hj⟩ := h1 n hq
        rw [atH_nat] at ha
        simp [hj] at ha
    rw [Maps.atKey_of_not_has hf] at hv
    rw [hf, ptrR_nil hv]
    rfl
  | some i =>
    have hn0 : 0 ≤ n := by
      rcases Int.lt_or_le n 0 with hlt | hge
      · simp [atH, hlt] at ha
      · exact hge
    obtain ⟨m, rfl⟩ := Int.eq_ofNat_of_zero_le hn0
    have hm : hs[m]? = some (some i) := by
      rw [show ((m : Nat) : Int) = (m : Int) from rfl, atH_nat] at ha
      cases hq : hs[m]? with
      | none => simp [List.getD, hq] at ha
      | some x => simp [List.getD, hq] at ha; rw [ha]
    obtain ⟨g1, g2⟩ := h2 m i hm
    rw [g2] at hv
    obtain ⟨c, hc, rfl⟩ := ptrR_of hv
    have : A.obj i = c := by omega
    rw [g1]
    simp [found, Ad.ptr, this]

theorem nextHandle_none (l : List (Option Nat)) (n m : Nat) (h : nextHandle l n = (m, none)) : m = n + l.length := by
  induction l generalizing n with
  | nil => simp [nextHandle] at h; simp [h]
  | cons x r ih =>
    cases x with
    | none => simp [nextHandle] at h; have := ih _ h; simp; omega
    | some i => simp [nextHandle] at h

theorem Rep.setCursor {w : World} {ρ : Nat → Nat} {A : Ad} {s : S} (h : Rep w ρ A s) (n : Nat) (v : Int) (hv : v = n) : Rep (w.setCell ⟨A.hb, 12, none⟩ (.int .i64 v)) ρ A { s with cursor := n } ∧ Ch (· = 1) ρ ρ w (w.setCell ⟨A.hb, 12, none⟩ (.int .i64 v)) := by
  subst hv
  obtain ⟨gs, ds, ks, hh, hgr, ⟨da, hd, hdr⟩, hk⟩ := h.head
  have c : Ch (· = 1) ρ ρ w (w.setCell ⟨A.hb, 12, none⟩ (.int .i64 n)) := (Ch.refl h.rho).setCell _ _ fun _ => h.rh
  refine ⟨h.turn c (by decide) (by decide) rfl rfl ⟨gs, ds, ks, ?_, hgr.keep c (by decide), ⟨da, hd.keep c (by decide), hdr⟩, hk.keep c (by decide)⟩ (h.map.keep (c.block _ h.map.lt (by rw [h.rm]; decide)))
    (h.keepObjs c (fun i _ => by omega)) (fun j o hj hd => ⟨o, hj, hd, rfl, rfl, rfl⟩), c⟩
  rw [heap_setCell_same w A.hb 12 _ _ _ hh]
  rfl

theorem shade_cursor (s : S) (n i : Nat) : ({ ({ s with cursor := n } : S).shade i with cursor := n + 1 } : S) = { s.shade i with cursor := n + 1 } := by
  unfold S.shade S.ep
  split <;> simp_all

theorem roots_rep {w : World} {ρ : Nat → Nat} {A : Ad} {s : S} (h : Rep w ρ A s) (hc : s.cursor ≤ s.handles.length) (hl : s.handles.length < 1000000000) (hg : s.grey.length < 1000000000)
    (hin : ∀ (j i : Nat), s.handles[j]? = some (some i) → ∃ o, s.objs[i]? = some o ∧ s.done ≤ o.epoch) :
    Calls Try.prog 51 #[.pointer (some ⟨A.hb, 0, none⟩)] w fun e w' => e = .returned (.bool s.roots.2) ∧ ∃ ρ', Rep w' ρ' A s.roots.1 ∧ Ch (fun r => r = 1 ∨ r = 5 ∨ 8 ≤ r) ρ ρ' w w' := by
  have HX : Hid (∀ (j i : Nat), s.handles[j]? = some (some i) → ∃ o, s.objs[i]? = some o ∧ s.done ≤ o.epoch) := hin
  have HR : Hid (Rep w ρ A s) := h
  have HC : Hid (s.cursor ≤ s.handles.length) := hc
  have HG : Hid (s.grey.length < 1000000000) := hg
  clear hin h hc hg
  go_enter Try.func51, Try.ntmps51
  go_wp2
  go_loopg [3] (s.handles.length - s.cursor) (fun k _ wr => ∃ n, n ≤ s.handles.length ∧ k = s.handles.length - n ∧ nextHandle (s.handles.drop n) n = nextHandle (s.handles.drop s.cursor) s.cursor ∧ Rep wr ρ A { s with cursor := n } ∧ Ch (· = 1) ρ ρ w wr)
  case atStart => exact ⟨s.cursor, HC.out, rfl, rfl, HR.out, Ch.refl HR.out.rho⟩
  case round =>
    obtain ⟨n, hn, hk, hnx, hrep, hch⟩ := hrel
    obtain ⟨gs, ds, ks, hh⟩ := hrep.hcell
    have h12 : wr.cell? ⟨A.hb, 12, none⟩ = some (.int .i64 n) := by rw [cell_of_row wr _ 12 _ _ _ hh]; rfl
    have h7 : wr.cell? ⟨A.hb, 7, none⟩ = some (.int .i64 s.handles.length) := by rw [cell_of_row wr _ 7 _ _ _ hh]; rfl
    have h8 : wr.cell? ⟨A.hb, 8, none⟩ = some (.map (some A.mb)) := by rw [cell_of_row wr _ 8 _ _ _ hh]; rfl
    have f12 : wr.frozen? ⟨A.hb, 12, none⟩ = false := frozen_of_row wr _ 12 _ _ hh
    have hlk := run_lookup hrep.map n (by omega)
    rw [atH_nat] at hlk
    have hlk' : ∀ k, (Instr.lookup 41 (.map (some A.mb)) (.int .i64 n) true).run Try.prog (wr.drewN k) = .ok (found A (s.handles.getD n none)) (wr.drewN k) := fun k => by
      have := run_lookup (w := wr.drewN k) (hrep.map.keep rfl) n (by omega)
      rw [atH_nat] at this
      exact this
    clear hlk
    have H1 := Lib.hid hk
    have H2 := Lib.hid hnx
    have H3 := Lib.hid hrep
    have H4 := Lib.hid hch
    clear hk hnx hrep hch hh
    by_cases hlt : n < s.handles.length
    · have hltz : (n : Int) < (s.handles.length : Int) := by omega
      cases hx : s.handles.getD n none with
      | none =>
        rw [hx] at hlk'
        have H5 := Lib.hid hx
        clear hx
        simp only [found] at hlk'
        go_wp2
        go_quiet (fail)
        go_wp2
        go_quiet (fail)
        go_wp2
        go_roundg (s.handles.length - (n + 1))
        case measure => have := H1.out; omega
        case rel =>
          refine ⟨n + 1, hlt, rfl, ?_, ((H3.out.drewN _).setCursor (n + 1) _ (by omega)).1, (H4.out.drewN _).trans ((H3.out.drewN _).setCursor (n + 1) _ (by omega)).2⟩
          rw [← H2.out, List.drop_eq_getElem_cons hlt]
          have : s.handles[n] = none := by have := H5.out; simpa [List.getD, hlt] using this
          rw [this]
          rfl
      | some i =>
        rw [hx] at hlk'
        have hgi : s.handles[n]? = some (some i) := by
          have := hx
          simp [List.getD, hlt] at this
          rw [List.getElem?_eq_getElem hlt, this]
        obtain ⟨o, ho, hod⟩ := HX.out n i hgi
        have H5 := Lib.hid hgi
        have H6 := Lib.hid ho
        have H7 := Lib.hid hod
        have H8 : s.roots = ({ s.shade i with cursor := n + 1 }, true) := by
          have e : nextHandle (s.handles.drop s.cursor) s.cursor = (n + 1, some i) := by
            rw [← H2.out, List.drop_eq_getElem_cons hlt]
            have : s.handles[n] = some i := by simpa [List.getElem?_eq_getElem hlt] using hgi
            rw [this]
            rfl
          unfold S.roots
          rw [e]
        have H9 := Lib.hid H8
        clear hx hgi ho hod H8
        simp only [found] at hlk'
        go_wp2
        go_quiet (fail)
        go_wp2
        go_quiet (fail)
        go_wp2_with fail
        refine (shade_rep (H3.out.drewN _) H6.out H7.out HG.out).mono ?_
        rintro e w1 ⟨rfl, ρ', hrep1, hch1⟩
        obtain ⟨gs, ds, ks, hh1⟩ := hrep1.hcell
        have hcur1 : ((({ s with cursor := n } : S).shade i)).cursor = n := by unfold S.shade; split <;> rfl
        have k12 : w1.cell? ⟨A.hb, 12, none⟩ = some (.int .i64 n) := by rw [cell_of_row w1 _ 12 _ _ _ hh1]; simp [hcells, hcur1]
        have e12 : w1.frozen? ⟨A.hb, 12, none⟩ = false := frozen_of_row w1 _ 12 _ _ hh1
        have G1 := Lib.hid hrep1
        have G2 := Lib.hid hch1
        clear hrep1 hch1 hh1 hcur1 hlk' h12 h7 h8 f12
        go_wp2
        go_ret
        obtain ⟨r1, r2⟩ := G1.out.setCursor (n + 1) (n + 1) (by omega)
        rw [H9.out]
        refine ⟨rfl, ρ', ?_, ?_⟩
        · rw [shade_cursor] at r1
          exact r1
        · exact (((H4.out.mono fun r hr => .inl hr).drewN _).trans (G2.out.mono fun r hr => by omega)).trans (r2.mono fun r hr => .inl hr)
    · have hnz : decide ((n : Int) < (s.handles.length : Int)) = false := by simp; omega
      obtain rfl : n = s.handles.length := by omega
      have H8 : s.roots = ({ s with cursor := s.handles.length }, false) := by
        have e : nextHandle (s.handles.drop s.cursor) s.cursor = (s.handles.length, none) := by
          rw [← H2.out]
          simp [nextHandle]
        unfold S.roots
        rw [e]
      have H9 := Lib.hid H8
      clear H8 hlk'
      go_wp2
      go_quiet (fail)
      go_wp2
      go_ret
      rw [H9.out]
      exact ⟨rfl, ρ, H3.out.drewN _, (H4.out.mono fun r hr => .inl hr).drewN _⟩

end Go.Proofs.Ytfjgokbclgdfjaa
