/- CheckOrder: walked. -/
import Derived.Test.YtnkahlloahgifaaGreatDoorCk
import Derived.Deep.RegionHeld3
import Derived.Deep.Cut
set_option linter.unusedSimpArgs false
set_option linter.unusedVariables false
namespace Go.Proofs.YtnkahlloahgifaaGreatDoor
open Go.RowKit RG Go.Maps

/-- The moves of a list, for lookups. -/
def MvWf (m : List RM.Mv) : Prop := ∀ x ∈ m, (Lit.int .i64 x.1).wf = true ∧ (Lit.int .i64 x.2).wf = true

/-- What CheckOrder leaves. -/
def CoP (w : World) (c : Int) (e : Ending) (w' : World) : Prop := e = .returned (.int .i64 c) ∧ Below w.heap.size w w'
def coCode (l m : List RM.Mv) (spare : Int) : Int := if RM.areMoves l spare = true then (if RM.good l spare m = true then 0 else 161) else 1

theorem run_isOf {l : List RM.Mv} {spare : Int} : ∀ (ms : List RM.Mv), (∀ x ∈ ms, RM.isOf l spare x.2 = true) → ∀ r, RM.isOf l spare r = true → RM.isOf l spare (RM.run id ms r) = true := by
  have gen : ∀ (ms : List RM.Mv) (σ : Int → Int), (∀ r, RM.isOf l spare r = true → RM.isOf l spare (σ r) = true) → (∀ x ∈ ms, RM.isOf l spare x.2 = true) → ∀ r, RM.isOf l spare r = true → RM.isOf l spare (RM.run σ ms r) = true := by
    intro ms
    induction ms with
    | nil => intro σ hσ _ r hr; exact hσ r hr
    | cons m ms ih =>
      intro σ hσ hm r hr
      refine ih (RM.step σ m) (fun q hq => ?_) (fun x hx => hm x (List.mem_cons_of_mem _ hx)) r hr
      unfold RM.step
      split
      · exact hσ _ (hm m List.mem_cons_self)
      · exact hσ q hq
  exact fun ms hm r hr => gen ms id (fun _ h => h) hm r hr

theorem sp_wf {l : List RM.Mv} {spare r : Int} (h : RM.areMoves l spare = true) (hr : RM.isOf l spare r = true) : (Lit.int .i64 (RM.sp spare r)).wf = true := by
  unfold RM.sp
  split
  · decide
  · rename_i hn
    rcases RM.isOf_cases.1 hr with e | ⟨m, hm, e | e⟩
    · exact absurd e hn
    · rw [← e]; exact isReg_wf ((RM.areMoves_iff.1 h).2.2.1 m hm).1
    · rw [← e]; exact isReg_wf ((RM.areMoves_iff.1 h).2.2.1 m hm).2.1

/-- A store, run. -/
theorem FMap.upd {w : World} {b n : Nat} {K : Int → Bool} {σ : Int → Int} (h : FMap w b K σ n) (hn : n < 1000000) {k c : Int} (hk : (Lit.int .i64 k).wf = true) (hc : (Lit.int .i64 c).wf = true) :
    ∃ w', (Instr.mapUpdate 108 (.map (some b)) (.int .i64 k) (.int .i64 c)).run Tryz.prog w = .ok () w' ∧ FMap w' b (fun r => K r || decide (r = k)) (fun r => if r = k then c else σ r) (n + 1) ∧ w.grownBy w' (some b) := by
  obtain ⟨L, ⟨D, h1, h2, h3, h4, h5⟩, g2, g3, g4⟩ := h
  obtain ⟨w', hrun, r1, r2⟩ := h1.update keyed3 Tryz.underlying108 (by rw [h2]; unfold maxLen; omega) (key_wf Tryz.underlying3 hk) (plainElem_int Tryz.underlying3 hc)
  exact ⟨w', hrun, FMap.put g2 g3 g4 (IMap.put keyed3 hk h1 h2 h3 h4 h5 r1), r2⟩

/-- A row of moves, as the walk reads it. -/
theorem MvsAt.read {w : World} {ad : Option Addr} {n c : Nat} {l : List RM.Mv} (h : MvsAt w (.slice ad n c) l) (hn : n = l.length) {k : Nat} (hk : k < n) : ∃ g o a b, ad = some ⟨g, o, none⟩ ∧ l[k]? = some (a, b) ∧ w.cell? ⟨g, o + k * 2, none⟩ = some (.int .i64 a) ∧ w.cell? ⟨g, o + k * 2 + 1, none⟩ = some (.int .i64 b) := by
  obtain ⟨ad', c', e, hat⟩ := h
  simp only [Value.slice.injEq] at e
  obtain ⟨g, o, e2, hat⟩ := hat (by omega)
  obtain ⟨⟨a, b⟩, hx⟩ : ∃ m, l[k]? = some m := ⟨_, List.getElem?_eq_getElem (by omega)⟩
  exact ⟨g, o, a, b, by rw [e.1, e2], hx, (hat k _ hx).1, (hat k _ hx).2⟩

theorem isOf_take {l : List RM.Mv} {spare : Int} {k : Nat} {a b : Int} (hx : l[k]? = some (a, b)) (r : Int) : RM.isOf (l.take (k + 1)) spare r = (RM.isOf (l.take k) spare r || (decide (a = r) || decide (b = r))) := by
  rw [List.take_add_one, hx]; exact RM.isOf_snoc (a, b)

set_option maxHeartbeats 4000000 in
set_option maxRecDepth 20000 in
theorem checkOrder_any {w : World} {v u : Value} {l m : List RM.Mv} {spare : Int} (h : MvsAt w v l) (hm : MvsAt w u m) (hwf : MvWf m) (hml : m.length ≤ maxLen) : Calls Tryz.prog 41 #[v, .int .i64 spare, u] w (CoP w (coCode l m spare)) := by
  have AM := Lib.hid (areMoves_any (spare := spare) h)
  have HV := Lib.hid h
  have HU := Lib.hid hm
  have HWF := Lib.hid hwf
  obtain ⟨ad, c, rfl, -⟩ := id h
  obtain ⟨am, cm, rfl, -⟩ := id hm
  obtain ⟨n, hn⟩ : ∃ n, n = l.length := ⟨_, rfl⟩
  obtain ⟨nm, hnm⟩ : ∃ n, n = m.length := ⟨_, rfl⟩
  rw [← hn] at AM HV ⊢
  rw [← hnm] at HU hml ⊢
  have HN := Lib.hid hn
  have HNM := Lib.hid hnm
  have hnmz : (nm : Int) ≤ 9223372036854775807 := by simp only [maxLen] at hml; omega
  clear h hn hm hnm hwf
  cases ham : RM.areMoves l spare with
  | false =>
    rw [ham] at AM
    have E : Hid (coCode l m spare = 1) := by show _ = _; unfold coCode; rw [ham]; rfl
    clear ham
    go_enter Tryz.func41, Tryz.ntmps41
    go_wp2_with (go_at_call 68; refine (AM.out).mono ?_; rintro e w1 ⟨rfl, hb⟩)
    go_ret
    exact ⟨by rw [E.out]; rfl, hb⟩
  | true =>
    rw [ham] at AM
    have E : Hid (coCode l m spare = if RM.good l spare m = true then 0 else 161) := by show _ = _; unfold coCode; rw [ham]; rfl
    obtain ⟨code, hcode⟩ : ∃ c, c = coCode l m spare := ⟨_, rfl⟩
    rw [← hcode] at E ⊢
    have HAM := Lib.hid ham
    have HL : Hid (n ≤ 16) := by show _ ≤ _; rw [HN.out]; exact (RM.areMoves_iff.1 ham).1
    have hnz : (n : Int) ≤ 16 := by have := HL.out; omega
    have WSP := Lib.hid (isReg_wf (RM.areMoves_iff.1 ham).2.1)
    have hmm := @run_makeMap Tryz.prog
    clear ham hcode
    go_enter Tryz.func41, Tryz.ntmps41
    go_wp2_with (first | (go_at_call 68; refine (AM.out).mono ?_; rintro e w1 ⟨rfl, hb⟩) | (refine wpList_finsert rfl _ _ _ rfl w1.heap.size 0 (fun _ => false) id rfl (FMap.made w1 id) (by decide) spare (-1) rfl rfl WSP.out (by decide) ?_; intro w2 hf2 hg2))
    have HB1 := Lib.hid hb
    have HB2 : Hid (Below w.heap.size w w2) := (HB1.out.alloc HB1.out.size (.map #[] 0)).grown hg2 (by have := HB1.out.size; simp; omega) (fun r e => by have := HB1.out.size; simp at e; omega)
    have HH1 : Hid (w.heap.size ≤ w1.heap.size) := HB1.out.size
    have HF2 : Hid (FMap w2 w1.heap.size (RM.isOf (l.take 0) spare) (RM.sp spare) 1) := hf2.congr (fun k => by unfold RM.isOf; simp) (fun k hk => by simp at hk; unfold RM.sp; simp [hk]) (Nat.le_refl _)
    clear hb hf2 hg2
    obtain ⟨hb, hhb⟩ : ∃ b, b = w1.heap.size := ⟨_, rfl⟩
    rw [← hhb] at HF2 HH1 ⊢
    clear hhb
    go_wp2_with fail
    go_loopw [32] (fun iv wr => ∃ k : Nat, k ≤ n ∧ iv = .int .i64 k ∧ FMap wr hb (RM.isOf (l.take k) spare) (RM.sp spare) (2 * k + 1) ∧ Below w.heap.size w wr) (fun iv _ => n - (intOf iv).toNat)
    case atStart => exact ⟨0, Nat.zero_le _, rfl, HF2.out, HB2.out⟩
    case round =>
      obtain ⟨k, hk, rfl, hf, hbl⟩ := hrel
      have KK := Lib.hid hk
      have KF := Lib.hid hf
      have KB := Lib.hid hbl
      clear hk hf hbl
      by_cases hlt : k < n
      · obtain ⟨g, o, a, b, rfl, hx, y0, y1⟩ := (HV.out.kept (kept_below KB.out)).read HN.out hlt
        have hlz : (k : Int) < n := by omega
        have HLT := Lib.hid hlt
        have HX := Lib.hid hx
        have RA := Lib.hid ((RM.areMoves_iff.1 HAM.out).2.2.1 _ (List.mem_of_getElem? hx))
        clear hlt hx
        go_wp2_with fail
        have KF2 : Hid (FMap (wr.alloc (.cells #[.int .i64 a, .int .i64 b] 81)).drew hb (RM.isOf (l.take k) spare) (RM.sp spare) (2 * k + 1)) := (KF.out.keep (Below.heap_alloc _ _ _ KF.out.lt)).keep rfl
        obtain ⟨W1, u1, hf1, hg1⟩ := KF2.out.upd (by have := HL.out; have := HLT.out; omega) (isReg_wf RA.out.1) (isReg_wf RA.out.1)
        obtain ⟨W2, u2, hf2, hg2⟩ := hf1.upd (by have := HL.out; have := HLT.out; omega) (isReg_wf RA.out.2.1) (isReg_wf RA.out.2.1)
        have bne : hb ≠ wr.heap.size := by have := KF.out.lt; omega
        have x0 : (wr.alloc (.cells #[.int .i64 a, .int .i64 b] 81)).drew.cell? ⟨wr.heap.size, 0, none⟩ = some (.int .i64 a) := by show (wr.alloc _).cell? _ = _; rw [cell_of_row _ _ 0 _ _ _ (heap_alloc_new wr _)]; rfl
        have x1 : (wr.alloc (.cells #[.int .i64 a, .int .i64 b] 81)).drew.cell? ⟨wr.heap.size, 1, none⟩ = some (.int .i64 b) := by show (wr.alloc _).cell? _ = _; rw [cell_of_row _ _ 1 _ _ _ (heap_alloc_new wr _)]; rfl
        have x2 := hg1.cell x0 (by simp; omega)
        have x3 := hg1.cell x1 (by simp; omega)
        have x4 := hg2.cell x2 (by simp; omega)
        have x5 := hg2.cell x3 (by simp; omega)
        have HB3 : Hid (Below w.heap.size w W2) := ((((KB.out.alloc KB.out.size (.cells #[.int .i64 a, .int .i64 b] 81)).trans (below_drewN _ _ 1)).grown hg1 (by have := KB.out.size; simp; omega) (fun r e => by have := HH1.out; simp at e; omega)).grown hg2 (by have := KB.out.size; have := hg1.size; simp at this; omega) (fun r e => by have := HH1.out; simp at e; omega))
        have HF3 : Hid (FMap W2 hb (RM.isOf (l.take (k + 1)) spare) (RM.sp spare) (2 * (k + 1) + 1)) := hf2.congr (fun r => by rw [isOf_take HX.out r, Bool.or_assoc]; congr 2 <;> rw [decide_eq_decide] <;> exact eq_comm) (fun r _ => by
          have ha : a ≠ spare := RA.out.2.2.1
          have hb' : b ≠ spare := RA.out.2.2.2
          by_cases e1 : r = b
          · rw [if_pos e1, e1]; unfold RM.sp; rw [if_neg hb']
          · rw [if_neg e1]
            by_cases e2 : r = a
            · rw [if_pos e2, e2]; unfold RM.sp; rw [if_neg ha]
            · rw [if_neg e2]) (by omega)
        clear hf1 hf2 hg1 hg2 KF2 y0 y1
        go_region_held3 (fun w' => w'.cell? ⟨wr.heap.size, 0, none⟩ = some (.int .i64 a) ∧ w'.cell? ⟨wr.heap.size, 1, none⟩ = some (.int .i64 b)) (exact ⟨by assumption, by assumption⟩) (fail)
        go_wp2_with fail
        go_roundw
        case rel => exact ⟨k + 1, HLT.out, by go_num, HF3.out, HB3.out⟩
        case measure => have := HLT.out; simp [intOf]; omega
      · have hkn : k = n := by have := KK.out; omega
        have hlz : (n : Int) ≤ k := by omega
        have F1 : Hid (FMap wr hb (RM.isOf l spare) (RM.sp spare) 40) := KF.out.congr (fun r => by rw [hkn, HN.out, List.take_length]) (fun _ _ => rfl) (by have := HL.out; omega)
        clear hkn hlt KK KF HF2 HB2
        have hdk : decide (k < n) = false := by simp; omega
        obtain ⟨L, hL, hLn, hLk, hLv⟩ := F1.out
        have GL := Lib.hid hL
        have GN := Lib.hid hLn
        have GK := Lib.hid hLk
        have GV := Lib.hid hLv
        clear hL hLn hLk hLv F1
        go_wp2_with fail
        have hbw : hb < wr.heap.size := GL.out.lt
        refine (union_any (lt := []) (ls := L) ((IMap.made Tryz.prog wr).alloc _) ((GL.out.alloc _).alloc _) (by omega) (cell_new2 wr _ _ _) (by have := GN.out; simp; omega)).mono ?_
        rintro e w3 ⟨rfl, hg3, hm3⟩
        have HBW := Lib.hid hbw
        have HB3 : Hid (Below w.heap.size w w3) := ((KB.out.alloc KB.out.size (.map #[] 0)).alloc (by have := KB.out.size; simp; omega) (.cells #[.map (some hb)] 107)).grown hg3 (by have := KB.out.size; simp; omega) (fun r e => by have := KB.out.size; simp at e; omega)
        have HW : Hid (w.heap.size ≤ wr.heap.size ∧ wr.heap.size < w3.heap.size) := by have h1 := KB.out.size; have h2 := hg3.size; simp at h2; show _ ∧ _; omega
        have GL3 : Hid (IMap Tryz.prog w3 hb L) := ((GL.out.alloc (.map #[] 0)).alloc (.cells #[.map (some hb)] 107)).keep (hg3.block hb (by simp; omega) (by simp; omega))
        have FW3 : Hid (FMap w3 wr.heap.size (RM.isOf l spare) (fun _ => 1) 40) := FMap.of_union GN.out GK.out hm3
        obtain ⟨wb, hwb⟩ : ∃ b, b = wr.heap.size := ⟨_, rfl⟩
        rw [← hwb] at FW3 HBW HW ⊢
        clear hg3 hm3 hbw hwb KB GL
        go_wp2_with (at_range; refine wpList_irange Tryz.underlying3 rfl _ 108 rfl Tryz.underlying108 hb L rfl GL3.out ?_; intro w4 hrg0 hg0 hs0)
        go_frame
        have R0 := Lib.hid hrg0
        have S0 : Hid (w4.heap.size = w3.heap.size + 1) := hs0
        have FW4 := Lib.hid (FW3.out.keep (hg0.block wb FW3.out.lt (by simp)))
        have HB4 : Hid (Below w.heap.size w w4) := HB3.out.grown hg0 HB3.out.size (fun r e => by cases e)
        clear hrg0 hg0 hs0 HB3
        go_loopw [11] (fun _ wr => ∃ (todo : Int → Bool) (cnt : Nat), IRg Tryz.prog wr hb w3.heap.size L todo cnt ∧ (∀ k, todo k = true → RM.isOf l spare k = true) ∧ FMap wr wb (RM.isOf l spare) (fun r => if todo r = true then 1 else RM.sp spare r) 40 ∧ Below w.heap.size w wr ∧ w3.heap.size < wr.heap.size)
          (fun _ wr => wr.rangeLeft hb w3.heap.size)
        case atStart => exact ⟨_, _, R0.out, fun k h => by rw [← GK.out]; exact h, FW4.out.congr (fun _ => rfl) (fun r hr => by rw [← GK.out] at hr; show 1 = if ikey L r = true then 1 else _; rw [if_pos hr]) (Nat.le_refl _), HB4.out, by rw [S0.out]; exact Nat.lt_succ_self _⟩
        case round =>
          obtain ⟨todo, cnt, hrg, htd, hfw, hbl, hsz⟩ := hrel
          have RG1 := Lib.hid hrg
          have TD := Lib.hid htd
          have FW := Lib.hid hfw
          have KB := Lib.hid hbl
          have HSZ := Lib.hid hsz
          clear hrg htd hfw hbl hsz
          go_wp2_with (at_next; refine wpList_inext Tryz.underlying3 rfl _ rfl hb w3.heap.size L todo cnt rfl RG1.out ?_ ?_)
          · intro hl0
            have FW5 : Hid (FMap wr wb (RM.isOf l spare) (RM.wantS spare (l.take 0)) 40) := FW.out.congr (fun _ => rfl) (fun r _ => by show (if todo r = true then 1 else RM.sp spare r) = _; rw [hl0]; rfl) (Nat.le_refl _)
            have GL5 : Hid (IMap Tryz.prog wr hb L) := RG1.out.imap
            clear hl0
            go_wp2_with fail
            have FH5 : Hid (FMap wr hb (RM.isOf l spare) (RM.run (RM.sp spare) (m.take 0)) 40) := ⟨L, GL5.out, GN.out, GK.out, GV.out⟩
            have KB5 := Lib.hid KB.out
            clear GL5 RG1 TD FW KB HSZ R0 S0 FW4 HB4 GL3 FW3 GN GK GV
            go_loopw [64] (fun iv wl => ∃ k : Nat, k ≤ n ∧ iv = .int .i64 k ∧ FMap wl wb (RM.isOf l spare) (RM.wantS spare (l.take k)) 40 ∧ FMap wl hb (RM.isOf l spare) (RM.run (RM.sp spare) (m.take 0)) 40 ∧ Below w.heap.size w wl) (fun iv _ => n - (intOf iv).toNat)
            case atStart => exact ⟨0, Nat.zero_le _, rfl, FW5.out, FH5.out, KB5.out⟩
            case round =>
              obtain ⟨k, hk, rfl, hfw, hfh, hbl⟩ := hrel
              have KK := Lib.hid hk
              have FW := Lib.hid hfw
              have FH := Lib.hid hfh
              have KB := Lib.hid hbl
              clear hk hfw hfh hbl FW5 FH5 KB5
              by_cases hlt : k < n
              · obtain ⟨g, o, a, b, rfl, hx, y0, y1⟩ := (HV.out.kept (kept_below KB.out)).read HN.out hlt
                have hlz : (k : Int) < n := by omega
                have HLT := Lib.hid hlt
                have HX := Lib.hid hx
                have RA := Lib.hid ((RM.areMoves_iff.1 HAM.out).2.2.1 _ (List.mem_of_getElem? hx))
                have IO := Lib.hid (RM.isOf_mem (l := l) (spare := spare) (List.mem_of_getElem? hx))
                have FW2 := Lib.hid (FW.out.keep (Below.heap_alloc wr (.cells #[.int .i64 a, .int .i64 b] 81) _ FW.out.lt))
                have FH2 := Lib.hid (FH.out.keep (Below.heap_alloc wr (.cells #[.int .i64 a, .int .i64 b] 81) _ FH.out.lt))
                have HBA := Lib.hid (KB.out.alloc KB.out.size (.cells #[.int .i64 a, .int .i64 b] 81))
                clear hlt hx
                go_wp2_with (at_mapUpdate; refine wpList_fputs rfl _ _ _ rfl wb 40 (RM.isOf l spare) _ rfl FW2.out (by decide) a b rfl rfl IO.out.1 (isReg_wf RA.out.2.1) ?_)
                intro w6 hf6 hg6
                have FW6 : Hid (FMap w6 wb (RM.isOf l spare) (RM.wantS spare (l.take (k + 1))) 40) := hf6.congr (fun _ => rfl) (fun r _ => by rw [List.take_add_one, HX.out]; show _ = RM.wantS spare (l.take k ++ [(a, b)]) r; rw [RM.wantS_snoc]; rfl) (Nat.le_refl _)
                have FH6 := Lib.hid (FH2.out.keep (hg6.block hb FH2.out.lt (by intro e; simp at e; have := HBW.out; omega)))
                have HB6 : Hid (Below w.heap.size w w6) := HBA.out.grown hg6 HBA.out.size (fun r e => by simp at e; have := HW.out; omega)
                clear hf6 hg6 y0 y1
                go_wp2_with fail
                go_roundw
                case rel => exact ⟨k + 1, HLT.out, by go_num, FW6.out, FH6.out, HB6.out⟩
                case measure => have := HLT.out; simp [intOf]; omega
              · have hkn : k = n := by have := KK.out; omega
                have hlz : (n : Int) ≤ k := by omega
                have hdk2 : decide (k < n) = false := by simp; omega
                have F1 : Hid (FMap wr wb (RM.isOf l spare) (RM.wantS spare l) 40) := FW.out.congr (fun _ => rfl) (fun r _ => by rw [hkn, HN.out, List.take_length]) (Nat.le_refl _)
                have FH1 := Lib.hid FH.out
                have KB1 := Lib.hid KB.out
                clear hkn hlt KK FW FH KB
                by_cases hm32 : nm ≤ 32
                · have d32 : decide (32 < (nm : Int)) = false := by simp; omega
                  have HM32 := Lib.hid hm32
                  clear hm32
                  go_wp2_with fail
                  go_loopw [79] (fun iv wl => ∃ k : Nat, k ≤ nm ∧ iv = .int .i64 k ∧ FMap wl wb (RM.isOf l spare) (RM.wantS spare l) 40 ∧ FMap wl hb (RM.isOf l spare) (RM.run (RM.sp spare) (m.take k)) 40 ∧ Below w.heap.size w wl ∧ ∀ x ∈ m.take k, RM.isOf l spare x.1 = true ∧ RM.isOf l spare x.2 = true) (fun iv _ => nm - (intOf iv).toNat)
                  case atStart => exact ⟨0, Nat.zero_le _, rfl, F1.out, FH1.out, KB1.out, fun x hx => absurd hx (by simp)⟩
                  case round =>
                    obtain ⟨k, hk, rfl, hfw, hfh, hbl, hall⟩ := hrel
                    have KK := Lib.hid hk
                    have FW := Lib.hid hfw
                    have FH := Lib.hid hfh
                    have KB := Lib.hid hbl
                    have HA := Lib.hid hall
                    clear hk hfw hfh hbl hall F1 FH1 KB1
                    by_cases hlt : k < nm
                    · obtain ⟨g, o, a, b, rfl, hx, y0, y1⟩ := (HU.out.kept (kept_below KB.out)).read HNM.out hlt
                      have hlz : (k : Int) < nm := by omega
                      have HLT := Lib.hid hlt
                      have HX := Lib.hid hx
                      have WF := Lib.hid (HWF.out _ (List.mem_of_getElem? hx))
                      have HMM := Lib.hid (List.mem_of_getElem? hx)
                      have FW2 := Lib.hid (FW.out.keep (Below.heap_alloc wr (.cells #[.int .i64 a, .int .i64 b] 81) _ FW.out.lt))
                      have FH2 := Lib.hid (FH.out.keep (Below.heap_alloc wr (.cells #[.int .i64 a, .int .i64 b] 81) _ FH.out.lt))
                      have HBA := Lib.hid (KB.out.alloc KB.out.size (.cells #[.int .i64 a, .int .i64 b] 81))
                      have NG : Hid (¬ (RM.isOf l spare a = true ∧ RM.isOf l spare b = true) → code = 161) := fun h => by
                        rw [E.out, if_neg]
                        intro hg
                        exact h ((RM.good_maps HAM.out).1 hg |>.2.1 _ HMM.out)
                      clear hlt hx
                      obtain ⟨ka, hka⟩ : ∃ q, q = RM.isOf l spare a := ⟨_, rfl⟩
                      obtain ⟨kb, hkb⟩ : ∃ q, q = RM.isOf l spare b := ⟨_, rfl⟩
                      have HKA := Lib.hid hka
                      have HKB := Lib.hid hkb
                      clear hka hkb
                      cases kb with
                      | false =>
                        have C161 : Hid (code = 161) := NG.out (fun h => by rw [h.2] at HKB; exact absurd HKB.out (by decide))
                        go_wp2_with (at_lookup; first | (refine wpList_fis rfl _ (.tmp 86) rfl hb 40 (RM.isOf l spare) _ rfl FH2.out b rfl WF.out.2 ?_; intro vb hvb; rw [← HKB.out]) | (refine wpList_fis rfl _ (.tmp 93) rfl hb 40 (RM.isOf l spare) _ rfl FH2.out a rfl WF.out.1 ?_; intro va hva; rw [← HKA.out]))
                        go_ret
                        exact ⟨by rw [C161.out]; rfl, HBA.out⟩
                      | true =>
                        cases ka with
                        | false =>
                          have C161 : Hid (code = 161) := NG.out (fun h => by rw [h.1] at HKA; exact absurd HKA.out (by decide))
                          go_wp2_with (at_lookup; first | (refine wpList_fis rfl _ (.tmp 86) rfl hb 40 (RM.isOf l spare) _ rfl FH2.out b rfl WF.out.2 ?_; intro vb hvb; rw [← HKB.out]) | (refine wpList_fis rfl _ (.tmp 93) rfl hb 40 (RM.isOf l spare) _ rfl FH2.out a rfl WF.out.1 ?_; intro va hva; rw [← HKA.out]))
                          go_ret
                          exact ⟨by rw [C161.out]; rfl, HBA.out⟩
                        | true =>
                          have WV : Hid ((Lit.int .i64 (RM.run (RM.sp spare) (m.take k) b)).wf = true) := by
                            show _ = _
                            rw [RM.run_sp]
                            exact sp_wf HAM.out (run_isOf _ (fun x hx => (HA.out x hx).2) _ HKB.out.symm)
                          go_wp2_with (first | (at_mapUpdate; refine wpList_fputs rfl _ _ _ rfl hb 40 (RM.isOf l spare) _ rfl FH2.out (by decide) a vb rfl rfl HKA.out.symm (by rw [hvb HKB.out.symm]; exact WV.out) ?_) | (at_lookup; first | (refine wpList_fis rfl _ (.tmp 86) rfl hb 40 (RM.isOf l spare) _ rfl FH2.out b rfl WF.out.2 ?_; intro vb hvb; rw [← HKB.out]) | (refine wpList_fis rfl _ (.tmp 93) rfl hb 40 (RM.isOf l spare) _ rfl FH2.out a rfl WF.out.1 ?_; intro va hva; rw [← HKA.out])))
                          intro w6 hf6 hg6
                          have FH6 : Hid (FMap w6 hb (RM.isOf l spare) (RM.run (RM.sp spare) (m.take (k + 1))) 40) := hf6.congr (fun _ => rfl) (fun r _ => by rw [List.take_add_one, HX.out, hvb HKB.out.symm]; show _ = RM.run _ (m.take k ++ [(a, b)]) r; rw [RM.run_snoc]; rfl) (Nat.le_refl _)
                          have FW6 := Lib.hid (FW2.out.keep (hg6.block wb FW2.out.lt (by intro e; simp at e; have := HBW.out; omega)))
                          have HB6 : Hid (Below w.heap.size w w6) := HBA.out.grown hg6 HBA.out.size (fun r e => by simp at e; have := HH1.out; omega)
                          have HA6 : Hid (∀ x ∈ m.take (k + 1), RM.isOf l spare x.1 = true ∧ RM.isOf l spare x.2 = true) := fun x hx => by
                            rw [List.take_add_one, HX.out] at hx
                            rcases List.mem_append.1 hx with hx | hx
                            · exact HA.out x hx
                            · simp at hx; rw [hx]; exact ⟨HKA.out.symm, HKB.out.symm⟩
                          clear hf6 hg6 y0 y1 hva hvb
                          go_wp2_with fail
                          go_roundw
                          case rel => exact ⟨k + 1, HLT.out, by go_num, FW6.out, FH6.out, HB6.out, HA6.out⟩
                          case measure => have := HLT.out; simp [intOf]; omega
                    · have hkn : k = nm := by have := KK.out; omega
                      have hlz : (nm : Int) ≤ k := by omega
                      have hdk3 : decide (k < nm) = false := by simp; omega
                      have etk : m.take k = m := List.take_of_length_le (by have := HNM.out; omega)
                      have FH1 : Hid (FMap wr hb (RM.isOf l spare) (RM.run (RM.sp spare) m) 40) := by have := FH.out; rw [etk] at this; exact this
                      have HA1 : Hid (∀ x ∈ m, RM.isOf l spare x.1 = true ∧ RM.isOf l spare x.2 = true) := by have := HA.out; rw [etk] at this; exact this
                      obtain ⟨L, hL, hLn, hLk, hLv⟩ := FW.out
                      have GL := Lib.hid hL
                      have GK := Lib.hid hLk
                      have GV := Lib.hid hLv
                      have KB1 := Lib.hid KB.out
                      clear hkn hlt KK FW FH KB HA hL hLn hLk hLv etk
                      go_wp2_with (at_range; refine wpList_irange Tryz.underlying3 rfl _ 108 rfl Tryz.underlying108 wb L rfl GL.out ?_; intro w4 hrg0 hg0 hs0)
                      go_frame
                      have R0 := Lib.hid hrg0
                      have FH4 := Lib.hid (FH1.out.keep (hg0.block hb FH1.out.lt (by simp)))
                      have HB4 : Hid (Below w.heap.size w w4) := KB1.out.grown hg0 KB1.out.size (fun r e => by cases e)
                      have HS4 : Hid (wr.heap.size < w4.heap.size) := by show _ < _; rw [hs0]; exact Nat.lt_succ_self _
                      have HRW : Hid (hb < wr.heap.size ∧ w.heap.size ≤ wr.heap.size) := ⟨FH1.out.lt, KB1.out.size⟩
                      obtain ⟨rb, hrb⟩ : ∃ q, q = wr.heap.size := ⟨_, rfl⟩
                      rw [← hrb] at R0 HS4 HRW ⊢
                      clear hrg0 hg0 hs0 KB1 GL FH1 hrb
                      go_loopw [21] (fun _ wl => ∃ (todo : Int → Bool) (cnt : Nat), IRg Tryz.prog wl wb rb L todo cnt ∧ FMap wl hb (RM.isOf l spare) (RM.run (RM.sp spare) m) 40 ∧ Below w.heap.size w wl ∧ (∀ r, RM.isOf l spare r = true → todo r = false → r ≠ spare → RM.run (RM.sp spare) m r = RM.wantS spare l r))
                        (fun _ wl => wl.rangeLeft wb rb)
                      case atStart => exact ⟨_, _, R0.out, FH4.out, HB4.out, fun r hr h => by rw [← GK.out, h] at hr; cases hr⟩
                      case round =>
                        obtain ⟨todo, cnt, hrg, hfh, hbl, hno⟩ := hrel
                        have RG1 := Lib.hid hrg
                        have FH := Lib.hid hfh
                        have KB := Lib.hid hbl
                        have NO := Lib.hid hno
                        clear hrg hfh hbl hno
                        go_wp2_with (at_next; refine wpList_inext Tryz.underlying3 rfl _ rfl wb rb L todo cnt rfl RG1.out ?_ ?_)
                        · intro hl0
                          have C0 : Hid (code = 0) := by
                            show _ = _
                            rw [E.out, if_pos ((RM.good_maps HAM.out).2 ⟨by have := HM32.out; have := HNM.out; omega, HA1.out, fun r hr hs => NO.out r hr (hl0 r) hs⟩)]
                          clear hl0
                          go_wp2_with fail
                          go_ret
                          exact ⟨by rw [C0.out]; rfl, KB.out⟩
                        · intro x v w5 cnt1 hwx hx htx hrg1 hlt1 hg1 hs1 hen
                          have XK : Hid (RM.isOf l spare x = true) := by show _ = _; rw [← GK.out]; exact ikey_iff.2 ⟨v, hx⟩
                          have XV : Hid (v = RM.wantS spare l x) := GV.out x v hx
                          have K4 := Lib.hid hrg1
                          have K5 := Lib.hid hlt1
                          have FH5 := Lib.hid (FH.out.keep (hg1.block hb FH.out.lt (by intro e; simp at e; have := HRW.out; omega)))
                          have HB5 : Hid (Below w.heap.size w w5) := KB.out.grown hg1 KB.out.size (fun r e => by simp at e; have := HRW.out; omega)
                          have er := FH5.out.run XK.out
                          have NX : Hid (x = spare ∨ RM.run (RM.sp spare) m x = RM.wantS spare l x → ∀ r, RM.isOf l spare r = true → (todo r && !decide (r = x)) = false → r ≠ spare → RM.run (RM.sp spare) m r = RM.wantS spare l r) := fun h r hr ht hs => by
                            by_cases e : r = x
                            · subst e
                              rcases h with h | h
                              · exact absurd h hs
                              · exact h
                            · exact NO.out r hr (by simpa [e] using ht) hs
                          obtain ⟨z, hz⟩ : ∃ z, z = RM.run (RM.sp spare) m x := ⟨_, rfl⟩
                          rw [← hz] at er NX
                          have HZ := Lib.hid hz
                          clear hwx hx htx hrg1 hlt1 hg1 hs1 hz
                          by_cases hxs : x = spare
                          · have d1 : (x != spare) = false := by simp [hxs]
                            have NX2 := Lib.hid (NX.out (.inl hxs))
                            clear hxs
                            go_wp2_with fail
                            go_roundw
                            case rel => exact ⟨_, cnt1, K4.out, FH5.out, HB5.out, NX2.out⟩
                            case measure => rw [K4.out.left_eq, RG1.out.left_eq]; exact K5.out
                          · have d1 : (x != spare) = true := by simp [hxs]
                            by_cases hzv : z = v
                            · have d2 : (z != v) = false := by simp [hzv]
                              have NX2 := Lib.hid (NX.out (.inr (by rw [hzv]; exact XV.out)))
                              clear hxs hzv
                              go_wp2_with fail
                              go_roundw
                              case rel => exact ⟨_, cnt1, K4.out, FH5.out, HB5.out, NX2.out⟩
                              case measure => rw [K4.out.left_eq, RG1.out.left_eq]; exact K5.out
                            · have d2 : (z != v) = true := by simp [hzv]
                              have C1 : Hid (code = 161) := by
                                show _ = _
                                rw [E.out, if_neg]
                                intro hg
                                have := ((RM.good_maps HAM.out).1 hg).2.2 x XK.out hxs
                                exact hzv (by rw [HZ.out, this, XV.out])
                              clear hxs hzv
                              go_wp2_with fail
                              go_ret
                              exact ⟨by rw [C1.out]; rfl, HB5.out⟩
                · have d32 : decide (32 < (nm : Int)) = true := by simp; omega
                  have C1 : Hid (code = 161) := by
                    show _ = _
                    rw [E.out, if_neg]
                    intro hg
                    have := ((RM.good_maps HAM.out).1 hg).1
                    have := HNM.out
                    omega
                  clear hm32
                  go_wp2_with fail
                  go_ret
                  exact ⟨by rw [C1.out]; rfl, KB1.out⟩
          · intro x v w5 cnt1 hwx hx htx hrg1 hlt1 hg1 hs1 hen
            have K1 := Lib.hid hwx
            have K2 := Lib.hid hx
            have K3 := Lib.hid htx
            have K4 := Lib.hid hrg1
            have K5 := Lib.hid hlt1
            have hwbne : wb ≠ w3.heap.size := by have := HW.out; omega
            have FW1 := Lib.hid (FW.out.keep (hg1.block wb FW.out.lt (by intro e; simp at e; omega)))
            have HB5 : Hid (Below w.heap.size w w5) := KB.out.grown hg1 KB.out.size (fun r e => by simp at e; have := HW.out; omega)
            have HS5 : Hid (w3.heap.size < w5.heap.size) := Nat.lt_of_lt_of_le HSZ.out hg1.size
            have HXK : Hid (RM.isOf l spare x = true) := TD.out x htx
            have HVX : Hid (v = RM.sp spare x) := GV.out x v hx
            have WFV : Hid ((Lit.int .i64 v).wf = true) := by rw [HVX.out]; exact sp_wf HAM.out HXK.out
            have HNE := Lib.hid hwbne
            clear hwx hx htx hrg1 hlt1 hg1 hs1 hwbne
            go_wp2_with (at_mapUpdate; refine wpList_fputs rfl _ _ _ rfl wb 40 (RM.isOf l spare) _ rfl FW1.out (by decide) x v rfl rfl HXK.out WFV.out ?_)
            intro w6 hf6 hg6
            have FW6 : Hid (FMap w6 wb (RM.isOf l spare) (fun r => if (todo r && !decide (r = x)) = true then 1 else RM.sp spare r) 40) := hf6.congr (fun _ => rfl) (fun r _ => by
              by_cases e : r = x
              · rw [if_pos e, e, HVX.out]; simp
              · rw [if_neg e]; simp [e]) (Nat.le_refl _)
            have RG6 := Lib.hid (K4.out.kept hg6 (by intro e; simp at e; have := HBW.out; omega) (by intro e; simp at e; have := HNE.out; omega))
            have HB6 : Hid (Below w.heap.size w w6) := HB5.out.grown hg6 HB5.out.size (fun r e => by simp at e; have := HW.out; omega)
            have HS6 : Hid (w3.heap.size < w6.heap.size) := Nat.lt_of_lt_of_le HS5.out hg6.size
            clear hf6 hg6 hen
            go_wp2_with fail
            go_roundw
            case rel => exact ⟨_, cnt1, RG6.out, fun k hk => TD.out k (by simp at hk; exact hk.1), FW6.out, HB6.out, HS6.out⟩
            case measure => rw [RG6.out.left_eq, RG1.out.left_eq]; exact K5.out
end Go.Proofs.YtnkahlloahgifaaGreatDoor
