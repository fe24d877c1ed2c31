/- The invariant behind Set. -/
import Derived.Test.YtfjgokbclgdfjaaInv6
namespace Go.Proofs.Ytfjgokbclgdfjaa
open HM

def S.content (t : S) (i : Nat) (x : W) : S := { t with objs := t.objs.modify i (fun o => { o with ws := [.num o.tag, x] }) }

theorem content_get {t : S} {i j : Nat} {x : W} {o' : O} (h : (S.content t i x).objs[j]? = some o') : ∃ o, t.objs[j]? = some o ∧ o'.tag = o.tag ∧ o'.space = o.space ∧ o'.place = o.place ∧ o'.epoch = o.epoch ∧ ((j = i ∧ o'.ws = [.num o.tag, x]) ∨ (j ≠ i ∧ o' = o)) := by
  simp only [S.content, List.getElem?_modify] at h
  by_cases e : i = j
  · subst e
    cases ho : t.objs[i]? with
    | none => rw [ho] at h; simp at h
    | some o => rw [ho] at h; simp at h; subst h; exact ⟨o, rfl, rfl, rfl, rfl, rfl, .inl ⟨rfl, rfl⟩⟩
  · simp [e] at h
    exact ⟨o', h, rfl, rfl, rfl, rfl, .inr ⟨fun e2 => e e2.symm, rfl⟩⟩

theorem content_put {t : S} {i j : Nat} {x : W} {o : O} (h : t.objs[j]? = some o) : ∃ o', (S.content t i x).objs[j]? = some o' ∧ o'.epoch = o.epoch := by
  simp only [S.content, List.getElem?_modify, h]
  by_cases e : i = j <;> simp [e]

theorem alive_content {t : S} {i j : Nat} {x : W} (h : t.Alive j) : (S.content t i x).Alive j := by
  obtain ⟨o, h1, h2⟩ := h
  obtain ⟨o', g1, g2⟩ := content_put (i := i) (x := x) h1
  exact ⟨o', g1, by rw [g2]; exact h2⟩

theorem ep_content {t : S} {i j : Nat} {x : W} (h : t.Alive j) : (S.content t i x).ep j = t.ep j := by
  obtain ⟨o, h1, h2⟩ := h
  obtain ⟨o', g1, g2⟩ := content_put (i := i) (x := x) h1
  rw [ep_some g1, ep_some h1, g2]

theorem wf_content {t : S} (h : WF t) {i : Nat} {o : O} (ho : t.objs[i]? = some o) (ht : o.tag = -1) {x : W} (hx : ∀ j, x = .obj j → t.Alive j ∧ t.ep j = t.epoch) : WF (S.content t i x) := by
  have hsz : ∀ {j : Nat} {o' p : O}, (S.content t i x).objs[j]? = some o' → t.objs[j]? = some p → o'.size = p.size ∧ o'.epoch = p.epoch ∧ o'.space = p.space ∧ o'.place = p.place := fun {j o' p} hj hp => by
    obtain ⟨q, g1, g2, g3, g4, g5, g6⟩ := content_get hj
    rw [hp] at g1
    obtain rfl := Option.some.inj g1
    refine ⟨?_, g5, g3, g4⟩
    rcases g6 with ⟨rfl, g6⟩ | ⟨_, rfl⟩
    · rw [ho] at hp
      obtain rfl := Option.some.inj hp
      obtain ⟨r, q1, q2, _⟩ := h.shape j o ho
      have := q2 ht
      simp [O.size, g6, q1, this]
    · rfl
  have hlen : (S.content t i x).objs.length = t.objs.length := by simp [S.content]
  have hblk : ∀ {j : Nat} {o' p : O}, o'.epoch = p.epoch → ((S.content t i x).Black j o' ↔ t.Black j p) := fun {j o' p} he => by unfold S.Black; rw [he]; rfl
  have hB : ∀ j, j < t.objs.length → (S.content t i x).szB j = t.szB j := fun j hj => by
    obtain ⟨p, hp⟩ : ∃ p, t.objs[j]? = some p := ⟨_, List.getElem?_eq_getElem hj⟩
    obtain ⟨o', g1, g2⟩ := content_put (i := i) (x := x) hp
    unfold S.szB
    rw [g1, hp]
    simp only
    rw [(hsz g1 hp).1]
    simp only [hblk g2]
  have hW : ∀ j, j < t.objs.length → (S.content t i x).szW j = t.szW j := fun j hj => by
    obtain ⟨p, hp⟩ : ∃ p, t.objs[j]? = some p := ⟨_, List.getElem?_eq_getElem hj⟩
    obtain ⟨o', g1, g2⟩ := content_put (i := i) (x := x) hp
    unfold S.szW
    rw [g1, hp]
    simp only
    rw [(hsz g1 hp).1, g2]
    simp only [hblk g2]
    rfl
  refine ⟨h.cur, h.ph, h.cursor, h.idle, h.busy, h.last, h.used, fun j o' hj => ?_, fun j q hj => alive_content (h.hand j q hj), fun j o' hj hd q hq => ?_, fun j o' hj => ?_, fun j hj => ?_, h.greyN, fun j hj => ?_, fun j o' hj hd => ?_, fun j k o1 o2 hj hk hne hd1 hd2 hsp => ?_, ?_, ?_, h.room,
    fun hp j o' hj hb q hq => ?_, fun j q hj => ?_⟩
  · obtain ⟨p, g1, _, _, _, g5, _⟩ := content_get hj
    rw [g5]; exact h.epo j p g1
  · obtain ⟨p, g1, _, _, _, g5, g6⟩ := content_get hj
    rcases g6 with ⟨rfl, g6⟩ | ⟨_, rfl⟩
    · rw [g6] at hq
      simp at hq
      exact alive_content (hx q hq.symm).1
    · exact alive_content (h.refs j o' g1 hd q hq)
  · obtain ⟨p, g1, g2, _, _, g5, g6⟩ := content_get hj
    rcases g6 with ⟨rfl, g6⟩ | ⟨_, rfl⟩
    · rw [ho] at g1
      obtain rfl := Option.some.inj g1
      exact ⟨[x], by rw [g6, g2], by simp, by simp, by rw [g2, ht]; decide, by rw [g2, ht]; decide⟩
    · exact h.shape j o' g1
  · rw [hlen]; exact h.weak j hj
  · obtain ⟨p, g1, g2⟩ := h.greyE j hj
    obtain ⟨o', k1, k2⟩ := content_put (i := i) (x := x) g1
    exact ⟨o', k1, by rw [k2]; exact g2⟩
  · obtain ⟨p, g1, _⟩ := content_get hj
    obtain ⟨e1, e2, e3, e4⟩ := hsz hj g1
    rw [hblk e2, e1, e3, e4]
    exact h.loc j p g1 (by rw [← e2]; exact hd)
  · obtain ⟨p, g1, _⟩ := content_get hj
    obtain ⟨q, k1, _⟩ := content_get hk
    obtain ⟨e1, e2, e3, e4⟩ := hsz hj g1
    obtain ⟨f1, f2, f3, f4⟩ := hsz hk k1
    rw [e1, e4, f1, f4]
    exact h.disj j k p q g1 k1 hne (by rw [← e2]; exact hd1) (by rw [← f2]; exact hd2) (by rw [← e3, ← f3]; exact hsp)
  · rw [hlen, rsum_congr hB]; exact h.bump
  · rw [hlen, rsum_congr hW]; exact h.stay
  · obtain ⟨p, g1, g2, g3, g4, g5, g6⟩ := content_get hj
    have hbp : t.Black j p := (hblk g5).1 hb
    rcases g6 with ⟨rfl, g6⟩ | ⟨_, rfl⟩
    · rw [g6] at hq
      simp at hq
      obtain ⟨a1, a2⟩ := hx q hq.symm
      rw [ep_content a1]; exact a2
    · have ha := h.refs j o' g1 (by have := h.doneLe; have e : o'.epoch = t.epoch := hbp.1; omega) q hq
      rw [ep_content ha]
      exact h.tri hp j o' g1 hbp q hq
  · rw [ep_content (h.hand j q hj)]
    exact h.roots j q hj

theorem wf_setC {s : S} (h : WF s) (hp : s.phase ≤ 2) {i : Nat} {o : O} (ho : s.objs[i]? = some o) (hd : s.done ≤ o.epoch) (ht : o.tag = -1) {x : W} (hx : ∀ j, x = .obj j → s.Alive j) : WF (s.setC i x) := by
  obtain ⟨o', h1, h2, _⟩ := shadeW_some h x ho hd
  have hw := wf_shadeW' h hp hx
  refine wf_content (t := s.shadeW x) hw h1 (by rw [h2, ht]) (fun j e => ⟨alive_shadeW (hx j e) h.doneLe, ?_⟩)
  subst e
  exact shade_self h.epo j
end Go.Proofs.Ytfjgokbclgdfjaa
