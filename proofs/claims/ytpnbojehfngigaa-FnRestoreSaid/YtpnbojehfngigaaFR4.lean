/- The law FnRestore returns true for every input, and its input reads behind the call as it did. No condition. -/
import Derived.Test.YtpnbojehfngigaaFR3

/- What the reference's functions on one process compute: states behind events. -/
namespace Go.Proofs.Ytpnbojehfngigaa.IM
open Go Go.Proofs Enc Flat
set_option linter.unusedVariables false
set_option linter.unusedSimpArgs false

theorem l2Copy_ok {s : State} {r o : Value} {H : Heap} (hr : Rd H r s.regs) (ho : Rd H o s.out) (h1 : s.regs.length ≤ 2 ^ 36) (h2 : s.out.length ≤ 2 ^ 36) :
    ICall pg 18 [stV s r o] H fun res H' => Gent H H' ∧ ∃ r' o', res = [stV s r' o'] ∧ Own2 H.length H' r' s.regs o' s.out := by
  refine go18 rfl fun C hC => ?_
  obtain ⟨r', H1, e1, e2, e3⟩ := (Own.laid (Nat.le_refl H.length) ([] : List Int)).app (by simp) s.regs (bytes := 8) (by omega) (by simp; omega)
  have g1 : Gent H H1 := (((gent_add' H _).keep (Nat.le_refl _)).trans e3).gent
  obtain ⟨o', H2, u1, u2, u3⟩ := (Own.laid (Nat.le_refl H1.length) ([] : List Int)).app (by simp) s.out (bytes := 8) (by omega) (by simp; omega)
  have g2 : Gent H1 H2 := (((gent_add' H1 _).keep (Nat.le_refl _)).trans u3).gent
  have e4 := (hr.gent (gent_add' H ⟨[], 1, true⟩)).cellsOf
  have e5 := hr.lenS
  have u4 := (ho.gent (g1.trans (gent_add' H1 ⟨[], 1, true⟩))).cellsOf
  have u5 := ho.lenS
  have c1 := e2.rd.cl
  have c2 := u2.rd.cl
  simp [sz, fz] at e1 e4 u1 u4
  simp only [stV]
  repeat' (first
    | refine W_seq ?_
    | refine W_block ?_
    | (refine W_ret ?_; simp [e1, e4, e5, u1, u4, u5, c1, c2])
    | (refine W_skip ?_; simp [e1, e4, e5, u1, u4, u5, c1, c2])
    | (refine W_exit ?_; simp [e1, e4, e5, u1, u4, u5, c1, c2])
    | (refine V_regc hC ?_; simp [e1, e4, e5, u1, u4, u5, c1, c2])
    | (refine V_reg hC ?_; simp [e1, e4, e5, u1, u4, u5, c1, c2])
    | (refine w_split rfl (fun hq => ?_) (fun hq => ?_) <;> (try simp at hq) <;> simp [hq, e1, e4, e5, u1, u4, u5, c1, c2])
    | (refine V_cond rfl (fun hq => ?_) (fun hq => ?_) <;> (try simp at hq))
    | (with_reducible refine And.intro (fun hq => ?_) (fun hq => ?_))
    | (with_reducible intro hq)
    | fail)
  refine ⟨g1.trans g2, r', o', ⟨rfl, rfl⟩, ?_⟩
  exact .mk (by simpa using e2) g1.1 g2 (by simpa using u2)

set_option maxHeartbeats 4000000 in
theorem l2Local_ok {l : List Ins} {s : State} {vl r o : Value} {H : Heap} {b0 : Nat} (e : Event) (hl : Rd H vl l) (hw : Own2 b0 H r s.regs o s.out) (hb0 : b0 ≤ H.length) (hlow : ∃ K, Rd K vl l ∧ b0 = K.length ∧ Gent K H) (hp : Prg l) (hf : Fit l s)
    (hop : (insAt l s.pc).op ≠ 6 ∧ (insAt l s.pc).op ≠ 7 ∧ (insAt l s.pc).op ≠ 8) :
    ICall pg 38 [vl, stV s r o] H fun res H' => res = [stV (didS l s e) r o] ∧ Own2 b0 H' r (didS l s e).regs o (didS l s e).out ∧ Keep b0 H H' := by
  refine go38 rfl fun C hC => ?_
  obtain ⟨hR, hA, hB⟩ := insOk_regs (hp.at hf)
  have hop2 := insOk_op (hp.at hf)
  have h4 := hf.regs
  have hlen := hp.len
  have hpc := hf.pc
  have hA' : 0 ≤ (insAt l s.pc).a ∧ (insAt l s.pc).a < s.regs.length := by omega
  have hB' : 0 ≤ (insAt l s.pc).b ∧ (insAt l s.pc).b < s.regs.length := by omega
  have hR' : 0 ≤ (insAt l s.pc).r ∧ (insAt l s.pc).r < s.regs.length := by omega
  have hr := hw.fst.rd
  have e1 := hl.elemPI hf.pc .i64
  have e2 := hl.atIns hf.pc
  have e3 := hr.elemPI hA' .i64
  have e4 := hr.atInt hA'
  have e5 := hr.elemPI hB' .i64
  have e6 := hr.atInt hB'
  have e7 := hr.elemPI hR' .i64
  obtain ⟨H2, w1, w2, w3⟩ := hw.wr1 (i := (insAt l s.pc).r.toNat) (by omega) (off := 0) (us := [.int .i64 (reckoned (insAt l s.pc) s.regs)]) (by simp [fz]) (y := reckoned (insAt l s.pc) s.regs) (by simp [fl])
  obtain ⟨K, k1, k2, k3⟩ := hlow
  have hl2 : Rd H2 vl l := k1.gent (((k3.keep (by omega)).trans w3).le (by omega)).gent
  clear k1 k2 k3
  simp [sz, fz, fl] at e1 e2 e3 e4 e5 e6 e7 w1
  simp only [stV]
  have hx : (insAt l s.pc).op = 1 ∨ (insAt l s.pc).op = 2 ∨ (insAt l s.pc).op = 3 ∨ (insAt l s.pc).op = 4 ∨ (insAt l s.pc).op = 5 ∨ (insAt l s.pc).op = 9 ∨ (insAt l s.pc).op = 10 ∨ (insAt l s.pc).op = 11 := by omega
  have hN : (insAt l s.pc).op = 9 ∨ (insAt l s.pc).op = 10 → 0 ≤ (insAt l s.pc).n ∧ (insAt l s.pc).n < l.length := by
    intro h
    have := hp.at hf
    unfold insOk at this
    rcases h with h | h <;> simp [h] at this <;> omega
  by_cases hab : getI s.regs (insAt l s.pc).a < getI s.regs (insAt l s.pc).b
  all_goals by_cases hnum : numB (reckoned (insAt l s.pc) s.regs) = true
  all_goals rcases hx with hx | hx | hx | hx | hx | hx | hx | hx
  all_goals (have hrk : reckoned (insAt l s.pc) s.regs = reckoned (insAt l s.pc) s.regs := rfl
             conv at hrk => rhs; unfold reckoned
             simp [hx, hab] at hrk
             rw [hrk] at w1 w2 hnum)
  all_goals (
    (try simp [e1, e2, e3, e4, e5, e6, e7, w1, hx, hab, hnum])
    repeat' (first
      | refine W_seq ?_
      | refine W_block ?_
      | (refine W_ret ?_; simp [e1, e2, e3, e4, e5, e6, e7, w1, hx, hab, hnum])
      | (refine W_skip ?_; simp [e1, e2, e3, e4, e5, e6, e7, w1, hx, hab, hnum])
      | (refine W_exit ?_; simp [e1, e2, e3, e4, e5, e6, e7, w1, hx, hab, hnum])
      | (refine V_regc hC ?_; simp [e1, e2, e3, e4, e5, e6, e7, w1, hx, hab, hnum])
      | (refine V_reg hC ?_; simp [e1, e2, e3, e4, e5, e6, e7, w1, hx, hab, hnum])
      | (refine (l1Num_ok _ _).mono ?_; rintro _ _ ⟨rfl, rfl⟩; simp [e1, e2, e3, e4, e5, e6, e7, w1, hx, hab, hnum])
      | (refine (l2Go_ok (s := s) (by first | exact hl | exact hl2) (by omega) hf.pc).mono ?_; rintro _ _ ⟨rfl, rfl⟩; simp only [stV]; simp [e1, e2, e3, e4, e5, e6, e7, w1, hx, hab, hnum])
      | (refine (l2Fault_ok (s := s)).mono ?_; rintro _ _ ⟨rfl, rfl⟩; simp only [stV]; simp [e1, e2, e3, e4, e5, e6, e7, w1, hx, hab, hnum])
      | (refine w_split rfl (fun hq => ?_) (fun hq => ?_) <;> (try simp at hq) <;> simp [hq, e1, e2, e3, e4, e5, e6, e7, w1, hx, hab, hnum])
      | (refine V_cond rfl (fun hq => ?_) (fun hq => ?_) <;> (try simp at hq))
      | (with_reducible refine And.intro (fun hq => ?_) (fun hq => ?_))
      | (with_reducible intro hq)
      | fail))
  all_goals refine ⟨⟨?_, ?_⟩, ?_, by first | exact Keep.refl _ _ | assumption⟩
  all_goals (first
    | (simp [didS, hx, hrk, hnum, goesOn_same, *]; done)
    | (have hN' := hN (by omega); simp [didS, hx, goesOn, hN', *]; done))

end Go.Proofs.Ytpnbojehfngigaa.IM

/- What the reference's Do computes. -/
namespace Go.Proofs.Ytpnbojehfngigaa.IM
open Go Go.Proofs Enc Flat
set_option linter.unusedVariables false
set_option linter.unusedSimpArgs false

def doneS (l : List Ins) (s : State) (e : Event) : State := if comesB e (nextE l s) = true then didS l s e else s

set_option maxHeartbeats 4000000 in
theorem l2Do_ok {l : List Ins} {s : State} {vl r o : Value} {H : Heap} (e : Event) (hl : Rd H vl l) (hr : Rd H r s.regs) (ho : Rd H o s.out) (hp : Prg l) (hf : Fit l s) (h2 : s.out.length ≤ 60) :
    ICall pg 19 [vl, stV s r o, .agg (fl e).toArray] H fun res H' => Gent H H' ∧ ∃ r' o', res = [stV (doneS l s e) r' o', .bool (comesB e (nextE l s))] ∧ Own2 H.length H' r' (doneS l s e).regs o' (doneS l s e).out := by
  refine go19 rfl fun C hC => ?_
  have hins := hp.at hf
  obtain ⟨hR, hA, hB⟩ := insOk_regs hins
  have hop2 := insOk_op hins
  have h4 := hf.regs
  have hlen := hp.len
  have hpc := hf.pc
  have hR' : 0 ≤ (insAt l s.pc).r ∧ (insAt l s.pc).r < s.regs.length := by omega
  have hN : (insAt l s.pc).op = 7 → (insAt l s.pc).n = 9 ∨ (0 ≤ (insAt l s.pc).n ∧ (insAt l s.pc).n ≤ 3) := by
    intro h
    have := hins
    unfold insOk at this
    simp [h, inB] at this
    omega
  obtain ⟨ek, ep, ev⟩ := e
  obtain ⟨nk, np, nv, hne⟩ : ∃ nk np nv, nextE l s = ⟨nk, np, nv⟩ := ⟨_, _, _, rfl⟩
  have hne0 := hne
  have hx : (insAt l s.pc).op = 7 ∨ (insAt l s.pc).op = 8 ∨ (insAt l s.pc).op = 6 ∨ ((insAt l s.pc).op ≠ 6 ∧ (insAt l s.pc).op ≠ 7 ∧ (insAt l s.pc).op ≠ 8) := by omega
  have e0 : ∀ K, Gent H K → K.rd (eP vl s.pc.toNat 1 5) 1 = some [.int .i64 (insAt l s.pc).r] := fun K hK => rd_gent (hl.insF hf.pc (off := 1) (by omega)) hK
  have e1 := hl.elemPI hf.pc .i64
  have e2 : IM.addP (eP vl s.pc.toNat 0 5) 1 = some (eP vl s.pc.toNat 1 5) := hl.addP (i := s.pc.toNat) (by omega) 0 1 5
  have c0 := ho.lenV
  simp [sz, fz] at e1
  obtain ⟨c, hc⟩ : ∃ c, comesB ⟨ek, ep, ev⟩ (nextE l s) = c := ⟨_, rfl⟩
  rw [hc]
  simp only [stV, fl, doneS]
  rw [hc]
  repeat' (first
    | refine W_seq ?_
    | refine W_block ?_
    | (refine W_ret ?_; simp)
    | (refine W_skip ?_; simp)
    | (refine W_exit ?_; simp)
    | (refine V_regc hC ?_; simp)
    | (refine V_reg hC ?_; simp)
    | (refine (l2Next_ok (s := s) hl hr hp hf).mono ?_; rintro _ _ ⟨rfl, rfl⟩; rw [hne0]; simp only [fl]; simp)
    | (refine (l2Copy_ok (s := s) hr ho (by omega) (by omega)).mono ?_; rintro _ H1 ⟨hg, r', o', rfl, hw⟩; simp only [stV])
    | (refine w_split rfl (fun hq => ?_) (fun hq => ?_) <;> (try simp at hq) <;> simp [hq])
    | (refine V_cond rfl (fun hq => ?_) (fun hq => ?_) <;> (try simp at hq))
    | (with_reducible refine And.intro (fun hq => ?_) (fun hq => ?_))
    | (with_reducible intro hq)
    | fail)
  have hl1 := hl.gent hg
  have e3 := e0 H1 hg
  have e5 := hw.fst.rd.elemPI hR' .i64
  obtain ⟨H3, u1, u2, u3⟩ := hw.wr1 (i := (insAt l s.pc).r.toNat) (by omega) (off := 0) (us := [.int .i64 ev]) (by simp [fz]) (y := ev) (by simp [fl])
  obtain ⟨o2, H4, a1, a2, a3⟩ := (hw.gent (gent_add' H1 ⟨[.int .i64 ev], 1, true⟩)).app2 (by have := hg.1; simp; omega) [ev] (bytes := 8) (by omega) (by simp; omega)
  have a4 : (H1.add ⟨[.int .i64 ev], 1, true⟩).cellsOf (.slice (some ⟨H1.length, 0, none⟩) 1 1) 1 = some [.int .i64 ev] := (Own.laid (Nat.le_refl H1.length) [ev]).rd.cellsOf
  have g3 : Gent H H3 := ((hg.keep (Nat.le_refl _)).trans u3).gent
  have g4 : Gent H H4 := (((hg.keep (Nat.le_refl _)).trans ((gent_add' H1 ⟨[.int .i64 ev], 1, true⟩).keep hg.1)).trans a3).gent
  have c2 := a2.snd.rd.cl
  simp [sz, fz, fl] at e5 u1 a1
  rcases hx with hx | hx | hx | hx
  all_goals simp [nextE, hx] at hne
  all_goals obtain ⟨rfl, rfl, rfl⟩ := hne
  all_goals rw [hne0] at hc
  all_goals (
    (try simp [c0, e1, e2, e3, e5, u1, a1, a4, c2])
    repeat' (first
      | refine W_seq ?_
      | refine W_block ?_
      | (refine W_ret ?_; simp [c0, e1, e2, e3, e5, u1, a1, a4, c2])
      | (refine W_skip ?_; simp [c0, e1, e2, e3, e5, u1, a1, a4, c2])
      | (refine W_exit ?_; simp [c0, e1, e2, e3, e5, u1, a1, a4, c2])
      | (refine V_regc hC ?_; simp [c0, e1, e2, e3, e5, u1, a1, a4, c2])
      | (refine V_reg hC ?_; simp [c0, e1, e2, e3, e5, u1, a1, a4, c2])
      | (refine (l1Num_ok _ _).mono ?_; rintro _ _ ⟨rfl, rfl⟩; simp [c0, e1, e2, e3, e5, u1, a1, a4, c2])
      | (refine (l1In_ok _ _ _ _).mono ?_; rintro _ _ ⟨rfl, rfl⟩; simp [c0, e1, e2, e3, e5, u1, a1, a4, c2])
      | (refine (l2Fault_ok (s := s)).mono ?_; rintro _ _ ⟨rfl, rfl⟩; simp only [stV]; simp [c0, e1, e2, e3, e5, u1, a1, a4, c2])
      | (refine (l2Go_ok (s := s) (by first | exact hl1 | exact hl.gent g3 | exact hl.gent g4) (by omega) hf.pc).mono ?_; rintro _ _ ⟨rfl, rfl⟩; simp only [stV]; simp [c0, e1, e2, e3, e5, u1, a1, a4, c2])
      | (with_reducible rintro rfl)
      | (refine (l2Local_ok (s := s) ⟨ek, 0, 0⟩ hl1 hw hg.1 ⟨H, hl, rfl, hg⟩ hp hf (by omega)).mono ?_; rintro _ H5 ⟨rfl, hw5, hk5⟩; simp [stV])
      | (refine w_split rfl (fun hq => ?_) (fun hq => ?_) <;> (try simp at hq) <;> simp [hq, c0, e1, e2, e3, e5, u1, a1, a4, c2])
      | (refine V_cond rfl (fun hq => ?_) (fun hq => ?_) <;> (try simp at hq))
      | (with_reducible refine And.intro (fun hq => ?_) (fun hq => ?_))
      | (with_reducible intro hq)
      | fail))
  all_goals (
    first
    | (have hc0 : c = false := by
         rw [← hc]; simp only [comesB]
         first | (simp_all; done) | (simp_all [inB]; omega)
       refine ⟨hg, _, _, ⟨⟨?_, rfl, rfl, ?_⟩, hc0⟩, ?_⟩ <;> simp [hc0, hw])
    | (have hc1 : c = true := by
         rw [← hc]; simp only [comesB]
         first | (simp_all; done) | (simp_all [inB]; omega)
       refine ⟨by first | assumption | exact (((hg.keep (Nat.le_refl _)).trans hk5)).gent, _, _, ⟨⟨?_, rfl, rfl, ?_⟩, hc1⟩, ?_⟩
       all_goals first
         | (simp only [hc1, if_true]; done)
         | (simp only [hc1, if_true]; exact hw5)
         | (simp [hc1, didS, hx, goesOn_same, *]; done)
         | (have h60 : 60 ≤ s.out.length := by omega
            simp [hc1, didS, hx, goesOn_same, *]; done)
         | (have h60 : ¬ 60 ≤ s.out.length := by omega
            simp [hc1, didS, hx, goesOn_same, *]; done))
    | (exfalso; have hh := hN hx; simp only [inB, decide_eq_false_iff_not] at *; omega))

end Go.Proofs.Ytpnbojehfngigaa.IM

/- States compared, and made anew. -/
namespace Go.Proofs.Ytpnbojehfngigaa.IM
open Go Go.Proofs Enc Flat
set_option linter.unusedVariables false
set_option linter.unusedSimpArgs false

theorem take_eq_succ {α : Type} {xs ys : List α} {i : Nat} (h1 : i < xs.length) (h2 : i < ys.length) (h : xs.take i = ys.take i) (e : xs[i] = ys[i]) : xs.take (i + 1) = ys.take (i + 1) := by
  rw [List.take_succ_eq_append_getElem h1, List.take_succ_eq_append_getElem h2, h, e]
theorem take_eq_end {α : Type} {xs ys : List α} {i : Nat} (h1 : ¬ i < xs.length) (hl : xs.length = ys.length) (h : xs.take i = ys.take i) : xs = ys := by
  rw [List.take_of_length_le (by omega), List.take_of_length_le (by omega)] at h; exact h
theorem ne_at {α : Type} {xs ys : List α} {i : Nat} (h1 : i < xs.length) (h2 : i < ys.length) (e : xs[i] ≠ ys[i]) : xs ≠ ys := by
  rintro rfl; exact e rfl

theorem equal_ok {v u : Value} {xs ys : List Int} {H : Heap} (h : Rd H v xs) (k : Rd H u ys) (hl : xs.length < 2 ^ 40) : ICall pg 39 [v, u] H (Same H [.bool (decide (xs = ys))]) := by
  refine go39 rfl fun C hC => ?_
  repeat' (first
    | refine W_seq ?_
    | refine W_block ?_
    | (refine W_ret ?_; simp [h.lenV, k.lenV, Same])
    | (refine W_skip ?_; simp [h.lenV, k.lenV, Same])
    | (refine W_exit ?_; simp [h.lenV, k.lenV, Same])
    | (refine V_regc hC ?_; simp [h.lenV, k.lenV, Same])
    | (refine V_reg hC ?_; simp [h.lenV, k.lenV, Same])
    | (refine w_split rfl (fun hq => ?_) (fun hq => ?_) <;> (try simp at hq) <;> simp [hq, h.lenV, k.lenV, Same])
    | (refine V_cond rfl (fun hq => ?_) (fun hq => ?_) <;> (try simp at hq))
    | (with_reducible refine And.intro (fun hq => ?_) (fun hq => ?_))
    | (with_reducible intro hq)
    | fail)
  · rintro rfl; simp at hq
  · have hle : xs.length = ys.length := by omega
    refine W_count xs.length (fun i s => i ≤ xs.length ∧ ∃ a b : Option Value, s = ⟨[some v, some u, some (.bool false), a, some (.int .i64 xs.length), some (.int .i64 i), b], [], H⟩ ∧ xs.take i = ys.take i) ⟨by omega, none, none, by simp, by simp⟩ ?_
    rintro i s ⟨hi, a, b, rfl, hno⟩
    by_cases hlt : i < xs.length
    · have e1 := h.elemP hlt .i64
      have e2 := h.all hlt
      have e3 := k.elemP (i := i) (by omega) .i64
      have e4 := k.all (i := i) (by omega)
      simp [sz, fz, fl] at e1 e2 e3 e4
      repeat' (first
        | refine W_seq ?_
        | refine W_block ?_
        | (refine W_ret ?_; simp [e1, e2, e3, e4, hlt, Same])
        | (refine W_skip ?_; simp [e1, e2, e3, e4, hlt, Same])
        | (refine W_exit ?_; simp [e1, e2, e3, e4, hlt, Same])
        | (refine V_regc hC ?_; simp [e1, e2, e3, e4, hlt, Same])
        | (refine V_reg hC ?_; simp [e1, e2, e3, e4, hlt, Same])
        | (refine w_split rfl (fun hq => ?_) (fun hq => ?_) <;> (try simp at hq) <;> simp [hq, e1, e2, e3, e4, hlt, Same])
        | (refine V_cond rfl (fun hq => ?_) (fun hq => ?_) <;> (try simp at hq))
        | (with_reducible refine And.intro (fun hq => ?_) (fun hq => ?_))
        | (with_reducible intro hq)
        | fail)
      · exact ne_at hlt (by omega) hq
      · exact ⟨by omega, wrap64 (by omega), take_eq_succ hlt (by omega) hno hq⟩
    · repeat' (first
        | refine W_seq ?_
        | refine W_block ?_
        | (refine W_ret ?_; simp [hlt, Same])
        | (refine W_skip ?_; simp [hlt, Same])
        | (refine W_exit ?_; simp [hlt, Same])
        | (refine V_regc hC ?_; simp [hlt, Same])
        | (refine V_reg hC ?_; simp [hlt, Same])
        | (refine w_split rfl (fun hq => ?_) (fun hq => ?_) <;> (try simp at hq) <;> simp [hq, hlt, Same])
        | (refine V_cond rfl (fun hq => ?_) (fun hq => ?_) <;> (try simp at hq))
        | (with_reducible refine And.intro (fun hq => ?_) (fun hq => ?_))
        | (with_reducible intro hq)
        | fail)
      exact take_eq_end hlt hle hno

theorem sameInts_ok {v u : Value} {xs ys : List Int} {H : Heap} (h : Rd H v xs) (k : Rd H u ys) (hl : xs.length < 2 ^ 40) : ICall pg 25 [v, u] H (Same H [.bool (decide (xs = ys))]) := by
  refine go25 rfl fun C hC => ?_
  repeat' (first
    | refine W_seq ?_
    | refine W_block ?_
    | (refine W_ret ?_; simp [h.lenV, k.lenV, Same])
    | (refine W_skip ?_; simp [h.lenV, k.lenV, Same])
    | (refine W_exit ?_; simp [h.lenV, k.lenV, Same])
    | (refine V_regc hC ?_; simp [h.lenV, k.lenV, Same])
    | (refine V_reg hC ?_; simp [h.lenV, k.lenV, Same])
    | (refine w_split rfl (fun hq => ?_) (fun hq => ?_) <;> (try simp at hq) <;> simp [hq, h.lenV, k.lenV, Same])
    | (refine V_cond rfl (fun hq => ?_) (fun hq => ?_) <;> (try simp at hq))
    | (with_reducible refine And.intro (fun hq => ?_) (fun hq => ?_))
    | (with_reducible intro hq)
    | fail)
  · rintro rfl; simp at hq
  · have hle : xs.length = ys.length := by omega
    refine W_count xs.length (fun i s => i ≤ xs.length ∧ s = ⟨[some v, some u, some (.bool false), some (.int .i64 i)], [], H⟩ ∧ xs.take i = ys.take i) ⟨by omega, by simp, by simp⟩ ?_
    rintro i s ⟨hi, rfl, hno⟩
    by_cases hlt : i < xs.length
    · have e1 := h.elemP hlt .i64
      have e2 := h.all hlt
      have e3 := k.elemP (i := i) (by omega) .i64
      have e4 := k.all (i := i) (by omega)
      simp [sz, fz, fl] at e1 e2 e3 e4
      repeat' (first
        | refine W_seq ?_
        | refine W_block ?_
        | (refine W_ret ?_; simp [e1, e2, e3, e4, hlt, h.lenV, Same])
        | (refine W_skip ?_; simp [e1, e2, e3, e4, hlt, h.lenV, Same])
        | (refine W_exit ?_; simp [e1, e2, e3, e4, hlt, h.lenV, Same])
        | (refine V_regc hC ?_; simp [e1, e2, e3, e4, hlt, h.lenV, Same])
        | (refine V_reg hC ?_; simp [e1, e2, e3, e4, hlt, h.lenV, Same])
        | (refine w_split rfl (fun hq => ?_) (fun hq => ?_) <;> (try simp at hq) <;> simp [hq, e1, e2, e3, e4, hlt, h.lenV, Same])
        | (refine V_cond rfl (fun hq => ?_) (fun hq => ?_) <;> (try simp at hq))
        | (with_reducible refine And.intro (fun hq => ?_) (fun hq => ?_))
        | (with_reducible intro hq)
        | fail)
      · exact ne_at hlt (by omega) hq
      · exact ⟨by omega, wrap64 (by omega), take_eq_succ hlt (by omega) hno hq⟩
    · repeat' (first
        | refine W_seq ?_
        | refine W_block ?_
        | (refine W_ret ?_; simp [hlt, h.lenV, Same])
        | (refine W_skip ?_; simp [hlt, h.lenV, Same])
        | (refine W_exit ?_; simp [hlt, h.lenV, Same])
        | (refine V_regc hC ?_; simp [hlt, h.lenV, Same])
        | (refine V_reg hC ?_; simp [hlt, h.lenV, Same])
        | (refine w_split rfl (fun hq => ?_) (fun hq => ?_) <;> (try simp at hq) <;> simp [hq, hlt, h.lenV, Same])
        | (refine V_cond rfl (fun hq => ?_) (fun hq => ?_) <;> (try simp at hq))
        | (with_reducible refine And.intro (fun hq => ?_) (fun hq => ?_))
        | (with_reducible intro hq)
        | fail)
      exact take_eq_end hlt hle hno

section
variable {a b : State} {ra oa rb ob : Value} {H : Heap}

theorem sameState_ok (h1 : Rd H ra a.regs) (h2 : Rd H oa a.out) (h3 : Rd H rb b.regs) (h4 : Rd H ob b.out) (l1 : a.regs.length < 2 ^ 40) (l2 : a.out.length < 2 ^ 40) : ICall pg 20 [stV a ra oa, stV b rb ob] H (Same H [.bool (decide (a = b))]) := by
  refine go20 rfl fun C hC => ?_
  simp only [stV]
  obtain ⟨p, x, y, c⟩ := a
  obtain ⟨p', x', y', c'⟩ := b
  repeat' (first
    | refine W_seq ?_
    | refine W_block ?_
    | (refine W_ret ?_; simp [Same])
    | (refine W_skip ?_; simp [Same])
    | (refine W_exit ?_; simp [Same])
    | (refine V_regc hC ?_; simp [Same])
    | (refine V_reg hC ?_; simp [Same])
    | (refine (equal_ok h1 h3 l1).mono ?_; rintro _ _ ⟨rfl, rfl⟩; simp [Same])
    | (refine (equal_ok h2 h4 l2).mono ?_; rintro _ _ ⟨rfl, rfl⟩; simp [Same])
    | (refine w_split rfl (fun hq => ?_) (fun hq => ?_) <;> (try simp at hq) <;> simp [hq, Same])
    | (refine V_cond rfl (fun hq => ?_) (fun hq => ?_) <;> (try simp at hq))
    | (with_reducible refine And.intro (fun hq => ?_) (fun hq => ?_))
    | (with_reducible intro hq)
    | fail)
  all_goals (first | omega | (simp_all []; done) | (simp_all []; omega) | (simp_all []; rw [Bool.eq_iff_iff]; simp [and_assoc]; done) | (simp_all []; rw [Bool.eq_iff_iff]; simp; omega) | (rw [Bool.eq_iff_iff]; simp_all []; done) | (rw [Bool.eq_iff_iff]; simp_all []; omega))

theorem lSameState_ok (h1 : Rd H ra a.regs) (h2 : Rd H oa a.out) (h3 : Rd H rb b.regs) (h4 : Rd H ob b.out) (l1 : a.regs.length < 2 ^ 40) (l2 : a.out.length < 2 ^ 40) : ICall pg 12 [stV a ra oa, stV b rb ob] H (Same H [.bool (decide (a = b))]) := by
  refine go12 rfl fun C hC => ?_
  simp only [stV]
  obtain ⟨p, x, y, c⟩ := a
  obtain ⟨p', x', y', c'⟩ := b
  repeat' (first
    | refine W_seq ?_
    | refine W_block ?_
    | (refine W_ret ?_; simp [Same])
    | (refine W_skip ?_; simp [Same])
    | (refine W_exit ?_; simp [Same])
    | (refine V_regc hC ?_; simp [Same])
    | (refine V_reg hC ?_; simp [Same])
    | (refine (sameInts_ok h1 h3 l1).mono ?_; rintro _ _ ⟨rfl, rfl⟩; simp [Same])
    | (refine (sameInts_ok h2 h4 l2).mono ?_; rintro _ _ ⟨rfl, rfl⟩; simp [Same])
    | (refine w_split rfl (fun hq => ?_) (fun hq => ?_) <;> (try simp at hq) <;> simp [hq, Same])
    | (refine V_cond rfl (fun hq => ?_) (fun hq => ?_) <;> (try simp at hq))
    | (with_reducible refine And.intro (fun hq => ?_) (fun hq => ?_))
    | (with_reducible intro hq)
    | fail)
  all_goals (first | omega | (simp_all []; done) | (simp_all []; omega) | (simp_all []; rw [Bool.eq_iff_iff]; simp [and_assoc]; done) | (simp_all []; rw [Bool.eq_iff_iff]; simp; omega) | (rw [Bool.eq_iff_iff]; simp_all []; done) | (rw [Bool.eq_iff_iff]; simp_all []; omega))

theorem l4SameState_ok (h1 : Rd H ra a.regs) (h2 : Rd H oa a.out) (h3 : Rd H rb b.regs) (h4 : Rd H ob b.out) (l1 : a.regs.length < 2 ^ 40) (l2 : a.out.length < 2 ^ 40) : ICall pg 22 [stV a ra oa, stV b rb ob] H (Same H [.bool (decide (a = b))]) := by
  refine go22 rfl fun C hC => ?_
  simp only [stV]
  obtain ⟨p, x, y, c⟩ := a
  obtain ⟨p', x', y', c'⟩ := b
  simp only at h1 h2 h3 h4 l1 l2 ⊢
  repeat' (first
    | refine W_seq ?_
    | refine W_block ?_
    | (refine W_ret ?_; simp [Same, h1.lenV, h2.lenV, h3.lenV, h4.lenV])
    | (refine W_skip ?_; simp [Same, h1.lenV, h2.lenV, h3.lenV, h4.lenV])
    | (refine W_exit ?_; simp [Same, h1.lenV, h2.lenV, h3.lenV, h4.lenV])
    | (refine V_regc hC ?_; simp [Same, h1.lenV, h2.lenV, h3.lenV, h4.lenV])
    | (refine V_reg hC ?_; simp [Same, h1.lenV, h2.lenV, h3.lenV, h4.lenV])
    | (refine w_split rfl (fun hq => ?_) (fun hq => ?_) <;> (try simp at hq) <;> simp [hq, Same, h1.lenV, h2.lenV, h3.lenV, h4.lenV])
    | (refine V_cond rfl (fun hq => ?_) (fun hq => ?_) <;> (try simp at hq))
    | (with_reducible refine And.intro (fun hq => ?_) (fun hq => ?_))
    | (with_reducible intro hq)
    | fail)
  · intro hyy; simp_all
  · have hx : x.length = x'.length := by omega
    have hy : y.length = y'.length := by omega
    refine W_count x.length (fun i s => i ≤ x.length ∧ s = ⟨[some (.agg #[.int .i64 p', ra, oa, .int .i64 c']), some (.agg #[.int .i64 p', rb, ob, .int .i64 c']), some (.bool false), some (.int .i64 i), none],
      [[.int .i64 p', ra, oa, .int .i64 c'], [.int .i64 p', rb, ob, .int .i64 c']], H⟩ ∧ x.take i = x'.take i) ⟨by omega, by simp, by simp⟩ ?_
    rintro i s ⟨hi, rfl, hno⟩
    by_cases hlt : i < x.length
    · have e1 := h1.elemP hlt .i64
      have e2 := h1.all hlt
      have e3 := h3.elemP (i := i) (by omega) .i64
      have e4 := h3.all (i := i) (by omega)
      simp [sz, fz, fl] at e1 e2 e3 e4
      repeat' (first
        | refine W_seq ?_
        | refine W_block ?_
        | (refine W_ret ?_; simp [e1, e2, e3, e4, hlt, h1.lenV, Same])
        | (refine W_skip ?_; simp [e1, e2, e3, e4, hlt, h1.lenV, Same])
        | (refine W_exit ?_; simp [e1, e2, e3, e4, hlt, h1.lenV, Same])
        | (refine V_regc hC ?_; simp [e1, e2, e3, e4, hlt, h1.lenV, Same])
        | (refine V_reg hC ?_; simp [e1, e2, e3, e4, hlt, h1.lenV, Same])
        | (refine w_split rfl (fun hq => ?_) (fun hq => ?_) <;> (try simp at hq) <;> simp [hq, e1, e2, e3, e4, hlt, h1.lenV, Same])
        | (refine V_cond rfl (fun hq => ?_) (fun hq => ?_) <;> (try simp at hq))
        | (with_reducible refine And.intro (fun hq => ?_) (fun hq => ?_))
        | (with_reducible intro hq)
        | fail)
      · exact absurd hq (ne_at hlt (by omega) (by assumption))
      · exact ⟨by omega, wrap64 (by omega), take_eq_succ hlt (by omega) hno hq⟩
    · obtain rfl := take_eq_end hlt hx hno
      repeat' (first
        | refine W_seq ?_
        | refine W_block ?_
        | (refine W_ret ?_; simp [hlt, h1.lenV, Same])
        | (refine W_skip ?_; simp [hlt, h1.lenV, Same])
        | (refine W_exit ?_; simp [hlt, h1.lenV, Same])
        | (refine V_regc hC ?_; simp [hlt, h1.lenV, Same])
        | (refine V_reg hC ?_; simp [hlt, h1.lenV, Same])
        | (refine w_split rfl (fun hq => ?_) (fun hq => ?_) <;> (try simp at hq) <;> simp [hq, hlt, h1.lenV, Same])
        | (refine V_cond rfl (fun hq => ?_) (fun hq => ?_) <;> (try simp at hq))
        | (with_reducible refine And.intro (fun hq => ?_) (fun hq => ?_))
        | (with_reducible intro hq)
        | fail)
      refine W_count y.length (fun i s => i ≤ y.length ∧ ∃ q, s = ⟨[some (.agg #[.int .i64 p', ra, oa, .int .i64 c']), some (.agg #[.int .i64 p', rb, ob, .int .i64 c']), some (.bool false), q, some (.int .i64 i)],
        [[.int .i64 p', ra, oa, .int .i64 c'], [.int .i64 p', rb, ob, .int .i64 c']], H⟩ ∧ y.take i = y'.take i) ⟨by omega, some (.int .i64 i), by simp, by simp⟩ ?_
      rintro i s ⟨hi, q, rfl, hno⟩
      by_cases hlt : i < y.length
      · have e1 := h2.elemP hlt .i64
        have e2 := h2.all hlt
        have e3 := h4.elemP (i := i) (by omega) .i64
        have e4 := h4.all (i := i) (by omega)
        simp [sz, fz, fl] at e1 e2 e3 e4
        repeat' (first
          | refine W_seq ?_
          | refine W_block ?_
          | (refine W_ret ?_; simp [e1, e2, e3, e4, hlt, h2.lenV, Same])
          | (refine W_skip ?_; simp [e1, e2, e3, e4, hlt, h2.lenV, Same])
          | (refine W_exit ?_; simp [e1, e2, e3, e4, hlt, h2.lenV, Same])
          | (refine V_regc hC ?_; simp [e1, e2, e3, e4, hlt, h2.lenV, Same])
          | (refine V_reg hC ?_; simp [e1, e2, e3, e4, hlt, h2.lenV, Same])
          | (refine w_split rfl (fun hq => ?_) (fun hq => ?_) <;> (try simp at hq) <;> simp [hq, e1, e2, e3, e4, hlt, h2.lenV, Same])
          | (refine V_cond rfl (fun hq => ?_) (fun hq => ?_) <;> (try simp at hq))
          | (with_reducible refine And.intro (fun hq => ?_) (fun hq => ?_))
          | (with_reducible intro hq)
          | fail)
        · exact ne_at hlt (by omega) hq
        · exact ⟨by omega, wrap64 (by omega), take_eq_succ hlt (by omega) hno hq⟩
      · repeat' (first
          | refine W_seq ?_
          | refine W_block ?_
          | (refine W_ret ?_; simp [hlt, h2.lenV, Same])
          | (refine W_skip ?_; simp [hlt, h2.lenV, Same])
          | (refine W_exit ?_; simp [hlt, h2.lenV, Same])
          | (refine V_regc hC ?_; simp [hlt, h2.lenV, Same])
          | (refine V_reg hC ?_; simp [hlt, h2.lenV, Same])
          | (refine w_split rfl (fun hq => ?_) (fun hq => ?_) <;> (try simp at hq) <;> simp [hq, hlt, h2.lenV, Same])
          | (refine V_cond rfl (fun hq => ?_) (fun hq => ?_) <;> (try simp at hq))
          | (with_reducible refine And.intro (fun hq => ?_) (fun hq => ?_))
          | (with_reducible intro hq)
          | fail)
        exact take_eq_end hlt hy hno
  · intro hyy; simp_all

end

theorem stateNew_ok (H : Heap) : ICall pg 24 [] H fun res H' => Gent H H' ∧ ∃ r', res = [stV .start r' (.slice none 0 0)] ∧ Own2 H.length H' r' State.start.regs (.slice none 0 0) State.start.out := by
  refine go24 rfl fun C hC => ?_
  simp only [stV]
  have h := Own.laid (Nat.le_refl H.length) [(0 : Int), 0, 0, 0]
  have k : Own2 H.length (H.add ⟨[.int .i64 0, .int .i64 0, .int .i64 0, .int .i64 0], 1, true⟩) (.slice (some ⟨H.length, 0, none⟩) 4 4) [(0 : Int), 0, 0, 0] (.slice none 0 0) ([] : List Int) := by
    refine .mk h (by simp) (Gent.refl _) .nil
  repeat' (first
    | refine W_seq ?_
    | refine W_block ?_
    | (refine W_ret ?_; simp [State.start])
    | (refine W_skip ?_; simp [State.start])
    | (refine W_exit ?_; simp [State.start])
    | (refine V_regc hC ?_; simp [State.start])
    | (refine V_reg hC ?_; simp [State.start])
    | (refine w_split rfl (fun hq => ?_) (fun hq => ?_) <;> (try simp at hq) <;> simp [hq, State.start])
    | (refine V_cond rfl (fun hq => ?_) (fun hq => ?_) <;> (try simp at hq))
    | (with_reducible refine And.intro (fun hq => ?_) (fun hq => ?_))
    | (with_reducible intro hq)
    | fail)
  exact k

theorem sStateNew_ok (H : Heap) : ICall pg 53 [] H fun res H' => Gent H H' ∧ ∃ r', res = [stV .start r' (.slice none 0 0)] ∧ Own2 H.length H' r' State.start.regs (.slice none 0 0) State.start.out := by
  refine go53 rfl fun C hC => ?_
  simp only [stV]
  have h := Own.laid (Nat.le_refl H.length) [(0 : Int), 0, 0, 0]
  have k : Own2 H.length (H.add ⟨[.int .i64 0, .int .i64 0, .int .i64 0, .int .i64 0], 1, true⟩) (.slice (some ⟨H.length, 0, none⟩) 4 4) [(0 : Int), 0, 0, 0] (.slice none 0 0) ([] : List Int) := by
    refine .mk h (by simp) (Gent.refl _) .nil
  repeat' (first
    | refine W_seq ?_
    | refine W_block ?_
    | (refine W_ret ?_; simp [State.start])
    | (refine W_skip ?_; simp [State.start])
    | (refine W_exit ?_; simp [State.start])
    | (refine V_regc hC ?_; simp [State.start])
    | (refine V_reg hC ?_; simp [State.start])
    | (refine w_split rfl (fun hq => ?_) (fun hq => ?_) <;> (try simp at hq) <;> simp [hq, State.start])
    | (refine V_cond rfl (fun hq => ?_) (fun hq => ?_) <;> (try simp at hq))
    | (with_reducible refine And.intro (fun hq => ?_) (fun hq => ?_))
    | (with_reducible intro hq)
    | fail)
  exact k

end Go.Proofs.Ytpnbojehfngigaa.IM

/- Replay, of both. -/
namespace Go.Proofs.Ytpnbojehfngigaa.IM
open Go Go.Proofs Enc Flat
set_option linter.unusedVariables false
set_option linter.unusedSimpArgs false

def replayFrom (l : List Ins) : State → List Event → Option State
  | s, [] => some s
  | s, e :: es => if s.code = 0 ∧ comesB e (nextE l s) = true then replayFrom l (didS l s e) es else none

def replayO (l : List Ins) (es : List Event) : Option State := if progOk l 4 = true ∧ es.length ≤ 200 then replayFrom l .start es else none

theorem goesOn_fit {l : List Ins} {s : State} (hf : Fit l s) (pc : Int) : Fit l (goesOn l s pc) := by
  unfold goesOn
  split
  · exact ⟨by simpa using ‹_›, hf.regs⟩
  · exact ⟨hf.pc, hf.regs⟩

theorem didS_fit {l : List Ins} {s : State} (hf : Fit l s) (e : Event) : Fit l (didS l s e) := by
  have k : ∀ R : List Int, R.length = 4 → Fit l { s with regs := R } := fun R hR => ⟨hf.pc, hR⟩
  unfold didS
  simp only []
  repeat' split
  all_goals first
    | exact goesOn_fit (k _ (by simp [hf.regs])) _
    | exact goesOn_fit hf _
    | exact ⟨hf.pc, hf.regs⟩
    | (refine goesOn_fit ?_ _; exact ⟨hf.pc, hf.regs⟩)

theorem goesOn_o {l : List Ins} {s : State} (pc : Int) : (goesOn l s pc).out = s.out := (goesOn_same l s pc).2

theorem didS_out {l : List Ins} {s : State} (h : s.out.length ≤ 60) (e : Event) : (didS l s e).out.length ≤ 60 := by
  unfold didS
  simp only []
  repeat' split
  all_goals (try rw [goesOn_o])
  all_goals ((try simp only [List.length_append, List.length_cons, List.length_nil]); omega)

theorem start_fit {l : List Ins} (hp : Prg l) : Fit l .start := ⟨by have := hp.len; simp [State.start]; omega, rfl⟩

theorem replayFrom_fit {l : List Ins} : ∀ {es : List Event} {s s' : State}, Fit l s → s.out.length ≤ 60 → replayFrom l s es = some s' → Fit l s' ∧ s'.out.length ≤ 60
  | [], s, s', hf, ho, h => by simp only [replayFrom, Option.some.injEq] at h; subst h; exact ⟨hf, ho⟩
  | e :: es, s, s', hf, ho, h => by
    simp only [replayFrom] at h
    split at h
    · exact replayFrom_fit (didS_fit hf e) (didS_out ho e) h
    · simp at h

theorem drop_cons {α : Type} {xs : List α} {i : Nat} (h : i < xs.length) : xs.drop i = xs[i] :: xs.drop (i + 1) := List.drop_eq_getElem_cons h

/-- The state that a replay tells, zero where there is none. -/
def orZero (x : Option State) : State := x.getD .zero

set_option maxHeartbeats 1000000 in
theorem replayed_ok {l : List Ins} {s : State} {es : List Event} {vl r o ve : Value} {H : Heap} {b0 : Nat} (hl : Rd H vl l) (hw : Own2 b0 H r s.regs o s.out) (hb0 : b0 ≤ H.length) (he : Rd H ve es) (hp : Prg l) (hf : Fit l s) (ho : s.out.length ≤ 60) (hes : es.length < 2 ^ 40) :
    ICall pg 15 [vl, stV s r o, ve] H fun res H' => Gent H H' ∧ ∃ r' o', res = [stV (orZero (replayFrom l s es)) r' o', .bool (replayFrom l s es).isSome] ∧ Own2 b0 H' r' (orZero (replayFrom l s es)).regs o' (orZero (replayFrom l s es)).out := by
  refine go15 rfl fun C hC => ?_
  simp only [stV]
  repeat' (first
    | refine W_seq ?_
    | refine W_block ?_
    | (refine W_ret ?_; simp [he.lenV])
    | (refine W_skip ?_; simp [he.lenV])
    | (refine W_exit ?_; simp [he.lenV])
    | (refine V_regc hC ?_; simp [he.lenV])
    | (refine V_reg hC ?_; simp [he.lenV])
    | (refine w_split rfl (fun hq => ?_) (fun hq => ?_) <;> (try simp at hq) <;> simp [hq, he.lenV])
    | (refine V_cond rfl (fun hq => ?_) (fun hq => ?_) <;> (try simp at hq))
    | (with_reducible refine And.intro (fun hq => ?_) (fun hq => ?_))
    | (with_reducible intro hq)
    | fail)
  refine W_count es.length (fun i st => i ≤ es.length ∧ ∃ (a : Option Value) (s1 : State) (r1 o1 : Value) (H1 : Heap) (b2 : List Value), st = ⟨[some vl, some (.agg #[.int .i64 s.pc, r, o, .int .i64 s.code]), some ve, some (.bool false), some ve, some (.int .i64 es.length), some (.int .i64 i), a],
    [[.int .i64 s1.pc, r1, o1, .int .i64 s1.code], [.int .i64 0, .slice none 0 0, .slice none 0 0, .int .i64 0], b2], H1⟩ ∧ Gent H H1 ∧ Own2 b0 H1 r1 s1.regs o1 s1.out ∧ Fit l s1 ∧ s1.out.length ≤ 60 ∧ replayFrom l s es = replayFrom l s1 (es.drop i))
    ⟨by omega, none, s, r, o, H, [], by simp, .refl _, hw, hf, ho, by simp⟩ ?_
  rintro i st ⟨hi, a, ⟨p1, g1, t1, c1⟩, r1, o1, H1, b2, rfl, hg, hw1, hf1, ho1, hrep⟩
  simp only at hw1 hf1 ho1 hrep ⊢
  by_cases hlt : i < es.length
  · have hl1 := hl.gent hg
    have e1 := (he.gent hg).elemP hlt .i64
    have e2 := (he.gent hg).all hlt
    rw [drop_cons hlt, replayFrom] at hrep
    simp [sz, fz, fl] at e1 e2
    by_cases hc : c1 = 0
    · subst hc
      repeat' (first
        | refine W_seq ?_
        | refine W_block ?_
        | (refine W_ret ?_; simp [e1, e2, hlt])
        | (refine W_skip ?_; simp [e1, e2, hlt])
        | (refine W_exit ?_; simp [e1, e2, hlt])
        | (refine V_regc hC ?_; simp [e1, e2, hlt])
        | (refine V_reg hC ?_; simp [e1, e2, hlt])
        | (refine (next_ok (s := ⟨p1, g1, t1, 0⟩) hl1 hw1.fst.rd hp hf1).mono ?_; rintro _ _ ⟨rfl, rfl⟩; simp [e1, e2, hlt])
        | (refine (comes_ok es[i] _ _).mono ?_; rintro _ _ ⟨rfl, rfl⟩; simp [e1, e2, hlt])
        | (refine (did_ok (s := ⟨p1, g1, t1, 0⟩) es[i] hl1 hw1.fst.rd hw1.snd.rd hp hf1 (by simp only; omega)).mono ?_; rintro _ H2 ⟨hg2, r2, o2, rfl, hw2⟩; simp only [stV]; simp [e1, e2, hlt])
        | (refine w_split rfl (fun hq => ?_) (fun hq => ?_) <;> (try simp at hq) <;> simp [hq, e1, e2, hlt])
        | (refine V_cond rfl (fun hq => ?_) (fun hq => ?_) <;> (try simp at hq))
        | (with_reducible refine And.intro (fun hq => ?_) (fun hq => ?_))
        | (with_reducible intro hq)
        | fail)
      · rw [if_neg (by simp [hq])] at hrep
        rw [hrep]
        exact ⟨hg, _, _, ⟨⟨rfl, rfl, rfl, rfl⟩, rfl⟩, .nil⟩
      · rw [if_pos ⟨rfl, hq⟩] at hrep
        exact ⟨by omega, _, didS l ⟨p1, g1, t1, 0⟩ es[i], _, _, _, ⟨⟨wrap64 (by omega), rfl⟩, ⟨rfl, rfl, rfl, rfl⟩, rfl⟩, hg.trans hg2, hw2.le (by have := hg.1; omega), didS_fit hf1 _, didS_out ho1 _, hrep⟩
    · repeat' (first
        | refine W_seq ?_
        | refine W_block ?_
        | (refine W_ret ?_; simp [e1, e2, hlt, hc])
        | (refine W_skip ?_; simp [e1, e2, hlt, hc])
        | (refine W_exit ?_; simp [e1, e2, hlt, hc])
        | (refine V_regc hC ?_; simp [e1, e2, hlt, hc])
        | (refine V_reg hC ?_; simp [e1, e2, hlt, hc])
        | (refine w_split rfl (fun hq => ?_) (fun hq => ?_) <;> (try simp at hq) <;> simp [hq, e1, e2, hlt, hc])
        | (refine V_cond rfl (fun hq => ?_) (fun hq => ?_) <;> (try simp at hq))
        | (with_reducible refine And.intro (fun hq => ?_) (fun hq => ?_))
        | (with_reducible intro hq)
        | fail)
      rw [if_neg (by simp [hc])] at hrep
      rw [hrep]
      exact ⟨hg, _, _, ⟨⟨rfl, rfl, rfl, rfl⟩, rfl⟩, .nil⟩
  · repeat' (first
      | refine W_seq ?_
      | refine W_block ?_
      | (refine W_ret ?_; simp [hlt])
      | (refine W_skip ?_; simp [hlt])
      | (refine W_exit ?_; simp [hlt])
      | (refine V_regc hC ?_; simp [hlt])
      | (refine V_reg hC ?_; simp [hlt])
      | (refine w_split rfl (fun hq => ?_) (fun hq => ?_) <;> (try simp at hq) <;> simp [hq, hlt])
      | (refine V_cond rfl (fun hq => ?_) (fun hq => ?_) <;> (try simp at hq))
      | (with_reducible refine And.intro (fun hq => ?_) (fun hq => ?_))
      | (with_reducible intro hq)
      | fail)
    rw [List.drop_of_length_le (by omega), replayFrom] at hrep
    rw [hrep]
    exact ⟨hg, _, _, ⟨⟨rfl, rfl, rfl, rfl⟩, rfl⟩, hw1⟩

set_option maxHeartbeats 1000000 in
theorem l3Replay_ok {l : List Ins} {es : List Event} {vl ve : Value} {H : Heap} (hl : Rd H vl l) (he : Rd H ve es) (hp : Prg l) (hes : es.length < 2 ^ 40) :
    ICall pg 41 [vl, ve] H fun res H' => Gent H H' ∧ ∃ r' o', res = [stV (orZero (replayFrom l .start es)) r' o', .bool (replayFrom l .start es).isSome] ∧ Own2 H.length H' r' (orZero (replayFrom l .start es)).regs o' (orZero (replayFrom l .start es)).out := by
  refine go41 rfl fun C hC => ?_
  simp only [stV]
  repeat' (first
    | refine W_seq ?_
    | refine W_block ?_
    | (refine W_ret ?_; simp)
    | (refine W_skip ?_; simp)
    | (refine W_exit ?_; simp)
    | (refine V_regc hC ?_; simp)
    | (refine V_reg hC ?_; simp)
    | (refine (sStateNew_ok _).mono ?_; rintro _ H0 ⟨hg0, r0, rfl, hw0⟩; simp only [stV]; simp)
    | (refine w_split rfl (fun hq => ?_) (fun hq => ?_) <;> (try simp at hq) <;> simp [hq])
    | (refine V_cond rfl (fun hq => ?_) (fun hq => ?_) <;> (try simp at hq))
    | (with_reducible refine And.intro (fun hq => ?_) (fun hq => ?_))
    | (with_reducible intro hq)
    | fail)
  refine W_count es.length (fun i st => i ≤ es.length ∧ ∃ (a : Option Value) (s1 : State) (r1 o1 : Value) (H1 : Heap) (b2 : List Value), st = ⟨[some vl, some ve, some (.bool false), some (.int .i64 i), a],
    [[.int .i64 0, .slice none 0 0, .slice none 0 0, .int .i64 0], [.int .i64 s1.pc, r1, o1, .int .i64 s1.code], b2], H1⟩ ∧ Gent H H1 ∧ Own2 H.length H1 r1 s1.regs o1 s1.out ∧ Fit l s1 ∧ s1.out.length ≤ 60 ∧ replayFrom l .start es = replayFrom l s1 (es.drop i))
    ⟨by omega, none, .start, r0, .slice none 0 0, H0, [], by simp, hg0, hw0, start_fit hp, by simp [State.start], by simp⟩ ?_
  rintro i st ⟨hi, a, ⟨p1, g1, t1, c1⟩, r1, o1, H1, b2, rfl, hg, hw1, hf1, ho1, hrep⟩
  simp only at hw1 hf1 ho1 hrep ⊢
  by_cases hlt : i < es.length
  · have hl1 := hl.gent hg
    have e1 := (he.gent hg).elemP hlt .i64
    have e2 := (he.gent hg).all hlt
    rw [drop_cons hlt, replayFrom] at hrep
    simp [sz, fz, fl] at e1 e2
    by_cases hc : c1 = 0
    · subst hc
      repeat' (first
        | refine W_seq ?_
        | refine W_block ?_
        | (refine W_ret ?_; simp [e1, e2, hlt, he.lenV])
        | (refine W_skip ?_; simp [e1, e2, hlt, he.lenV])
        | (refine W_exit ?_; simp [e1, e2, hlt, he.lenV])
        | (refine V_regc hC ?_; simp [e1, e2, hlt, he.lenV])
        | (refine V_reg hC ?_; simp [e1, e2, hlt, he.lenV])
        | (refine (l2Do_ok (s := ⟨p1, g1, t1, 0⟩) es[i] hl1 hw1.fst.rd hw1.snd.rd hp hf1 ho1).mono ?_; rintro _ H2 ⟨hg2, r2, o2, rfl, hw2⟩; simp only [stV]; simp [e1, e2, hlt, he.lenV])
        | (refine w_split rfl (fun hq => ?_) (fun hq => ?_) <;> (try simp at hq) <;> simp [hq, e1, e2, hlt, he.lenV])
        | (refine V_cond rfl (fun hq => ?_) (fun hq => ?_) <;> (try simp at hq))
        | (with_reducible refine And.intro (fun hq => ?_) (fun hq => ?_))
        | (with_reducible intro hq)
        | fail)
      · rw [if_neg (by simp [hq])] at hrep
        rw [hrep]
        exact ⟨hg.trans hg2, _, _, ⟨⟨rfl, rfl, rfl, rfl⟩, rfl⟩, .nil⟩
      · rw [if_pos ⟨rfl, hq⟩] at hrep
        simp only [doneS, hq, if_true] at hw2 ⊢
        exact ⟨by omega, _, didS l ⟨p1, g1, t1, 0⟩ es[i], _, _, _, ⟨⟨wrap64 (by omega), rfl⟩, ⟨rfl, rfl, rfl, rfl⟩, rfl⟩, hg.trans hg2, hw2.le (by have := hg.1; omega), didS_fit hf1 _, didS_out ho1 _, hrep⟩
    · repeat' (first
        | refine W_seq ?_
        | refine W_block ?_
        | (refine W_ret ?_; simp [e1, e2, hlt, hc, he.lenV])
        | (refine W_skip ?_; simp [e1, e2, hlt, hc, he.lenV])
        | (refine W_exit ?_; simp [e1, e2, hlt, hc, he.lenV])
        | (refine V_regc hC ?_; simp [e1, e2, hlt, hc, he.lenV])
        | (refine V_reg hC ?_; simp [e1, e2, hlt, hc, he.lenV])
        | (refine w_split rfl (fun hq => ?_) (fun hq => ?_) <;> (try simp at hq) <;> simp [hq, e1, e2, hlt, hc, he.lenV])
        | (refine V_cond rfl (fun hq => ?_) (fun hq => ?_) <;> (try simp at hq))
        | (with_reducible refine And.intro (fun hq => ?_) (fun hq => ?_))
        | (with_reducible intro hq)
        | fail)
      rw [if_neg (by simp [hc])] at hrep
      rw [hrep]
      exact ⟨hg, _, _, ⟨⟨rfl, rfl, rfl, rfl⟩, rfl⟩, .nil⟩
  · repeat' (first
      | refine W_seq ?_
      | refine W_block ?_
      | (refine W_ret ?_; simp [hlt, he.lenV])
      | (refine W_skip ?_; simp [hlt, he.lenV])
      | (refine W_exit ?_; simp [hlt, he.lenV])
      | (refine V_regc hC ?_; simp [hlt, he.lenV])
      | (refine V_reg hC ?_; simp [hlt, he.lenV])
      | (refine w_split rfl (fun hq => ?_) (fun hq => ?_) <;> (try simp at hq) <;> simp [hq, hlt, he.lenV])
      | (refine V_cond rfl (fun hq => ?_) (fun hq => ?_) <;> (try simp at hq))
      | (with_reducible refine And.intro (fun hq => ?_) (fun hq => ?_))
      | (with_reducible intro hq)
      | fail)
    rw [List.drop_of_length_le (by omega), replayFrom] at hrep
    rw [hrep]
    exact ⟨hg, _, _, ⟨⟨rfl, rfl, rfl, rfl⟩, rfl⟩, hw1⟩

theorem replay_ok {l : List Ins} {es : List Event} {vl ve : Value} {H : Heap} (hl : Rd H vl l) (he : Rd H ve es) (hll : l.length < 2 ^ 40) (hes : es.length < 2 ^ 40) :
    ICall pg 11 [vl, ve] H fun res H' => Gent H H' ∧ ∃ r' o', res = [stV (orZero (replayO l es)) r' o', .bool (replayO l es).isSome] ∧ Own2 H.length H' r' (orZero (replayO l es)).regs o' (orZero (replayO l es)).out := by
  refine go11 rfl fun C hC => ?_
  simp only [stV]
  repeat' (first
    | refine W_seq ?_
    | refine W_block ?_
    | (refine W_ret ?_; simp [he.lenV])
    | (refine W_skip ?_; simp [he.lenV])
    | (refine W_exit ?_; simp [he.lenV])
    | (refine V_regc hC ?_; simp [he.lenV])
    | (refine V_reg hC ?_; simp [he.lenV])
    | (refine (progOk_ok 4 hl hll (by omega)).mono ?_; rintro _ H1 ⟨rfl, hg1⟩; simp [he.lenV])
    | (refine (stateNew_ok _).mono ?_; rintro _ H2 ⟨hg2, r2, rfl, hw2⟩; simp only [stV]; simp [he.lenV])
    | (refine (replayed_ok (s := .start) (hl.gent (hg1.trans hg2)) (hw2.le (b1 := H.length) hg1.1) (hg1.trans hg2).1 (he.gent (hg1.trans hg2)) (Prg.of (by assumption)) (start_fit (Prg.of (by assumption))) (by simp [State.start]) hes).mono ?_; rintro _ H3 ⟨hg3, r3, o3, rfl, hw3⟩; simp only [stV]; simp [he.lenV])
    | (refine w_split rfl (fun hq => ?_) (fun hq => ?_) <;> (try simp at hq) <;> simp [hq, he.lenV])
    | (refine V_cond rfl (fun hq => ?_) (fun hq => ?_) <;> (try simp at hq))
    | (with_reducible refine And.intro (fun hq => ?_) (fun hq => ?_))
    | (with_reducible intro hq)
    | fail)
  · have hr : replayO l es = none := by unfold replayO; rw [if_neg (by omega)]
    rw [hr]
    exact ⟨hg1, _, _, ⟨⟨rfl, rfl, rfl, rfl⟩, rfl⟩, .nil⟩
  · have hr : replayO l es = replayFrom l .start es := by unfold replayO; rw [if_pos ⟨by assumption, by omega⟩]
    rw [hr]
    exact ⟨(hg1.trans hg2).trans hg3, _, _, ⟨⟨rfl, rfl, rfl, rfl⟩, rfl⟩, hw3⟩
  · have hr : replayO l es = none := by unfold replayO; rw [if_neg (by simp [hq])]
    rw [hr]
    exact ⟨hg1, _, _, ⟨⟨rfl, rfl, rfl, rfl⟩, rfl⟩, .nil⟩

theorem sReplay_ok {l : List Ins} {es : List Event} {vl ve : Value} {H : Heap} (hl : Rd H vl l) (he : Rd H ve es) (hll : l.length < 2 ^ 40) (hes : es.length < 2 ^ 40) :
    ICall pg 21 [vl, ve] H fun res H' => Gent H H' ∧ ∃ r' o', res = [stV (orZero (replayO l es)) r' o', .bool (replayO l es).isSome] ∧ Own2 H.length H' r' (orZero (replayO l es)).regs o' (orZero (replayO l es)).out := by
  refine go21 rfl fun C hC => ?_
  simp only [stV]
  repeat' (first
    | refine W_seq ?_
    | refine W_block ?_
    | (refine W_ret ?_; simp [he.lenV])
    | (refine W_skip ?_; simp [he.lenV])
    | (refine W_exit ?_; simp [he.lenV])
    | (refine V_regc hC ?_; simp [he.lenV])
    | (refine V_reg hC ?_; simp [he.lenV])
    | (refine (sProgOk_ok 4 hl hll (by omega)).mono ?_; rintro _ _ ⟨rfl, rfl⟩; simp [he.lenV])
    | (refine (l3Replay_ok hl he (Prg.of (by assumption)) hes).mono ?_; rintro _ H3 ⟨hg3, r3, o3, rfl, hw3⟩; simp only [stV]; simp [he.lenV])
    | (refine w_split rfl (fun hq => ?_) (fun hq => ?_) <;> (try simp at hq) <;> simp [hq, he.lenV])
    | (refine V_cond rfl (fun hq => ?_) (fun hq => ?_) <;> (try simp at hq))
    | (with_reducible refine And.intro (fun hq => ?_) (fun hq => ?_))
    | (with_reducible intro hq)
    | fail)
  · have hr : replayO l es = none := by unfold replayO; rw [if_neg (by omega)]
    rw [hr]
    exact ⟨_, _, ⟨⟨rfl, rfl, rfl, rfl⟩, rfl⟩, .nil⟩
  · have hr : replayO l es = replayFrom l .start es := by unfold replayO; rw [if_pos ⟨by assumption, by omega⟩]
    rw [hr]
    exact ⟨hg3, _, _, ⟨⟨rfl, rfl, rfl, rfl⟩, rfl⟩, hw3⟩
  · have hr : replayO l es = none := by unfold replayO; rw [if_neg (by simp [hq])]
    rw [hr]
    exact ⟨_, _, ⟨⟨rfl, rfl, rfl, rfl⟩, rfl⟩, .nil⟩

end Go.Proofs.Ytpnbojehfngigaa.IM

/- KeptOk, of both. -/
namespace Go.Proofs.Ytpnbojehfngigaa.IM
open Go Go.Proofs Enc Flat
set_option linter.unusedVariables false
set_option linter.unusedSimpArgs false

theorem bne_t {x y : Int} (h : x ≠ y) : (x != y) = true := by simpa using h

def kd (keep : List Kept) (i : Nat) : Kept := keep.getD i default
theorem kd_get {keep : List Kept} {i : Nat} (h : i < keep.length) : keep[i] = kd keep i := by simp [kd, h]

def keptAt (l : List Ins) (es : List Event) (keep : List Kept) (i : Nat) : Prop :=
  inB (kd keep i).n 0 es.length = true ∧ (0 < i → (kd keep (i - 1)).n < (kd keep i).n) ∧ orZero (replayO l (es.take (kd keep i).n.toNat)) = (kd keep i).s

def KeptP (l : List Ins) (es : List Event) (keep : List Kept) : Prop := (replayO l es).isSome = true ∧ keep.length ≠ 0 ∧ (kd keep 0).n = 0 ∧ ∀ i, i < keep.length → keptAt l es keep i

theorem replayO_len (l : List Ins) (es : List Event) : (orZero (replayO l es)).regs.length < 2 ^ 40 ∧ (orZero (replayO l es)).out.length < 2 ^ 40 := by
  unfold replayO
  split
  · rename_i h
    cases hq : replayFrom l .start es with
    | none => simp [orZero, State.zero]
    | some s =>
      obtain ⟨h1, h2⟩ := replayFrom_fit (start_fit (.of h.1)) (by simp [State.start]) hq
      have := h1.regs
      simp only [orZero, Option.getD_some]
      omega
  · simp [orZero, State.zero]

/-- What lies at a kept state. -/
theorem Rd.keptAt {H : Heap} {v : Value} {keep : List Kept} (h : Rd H v keep) {i : Nat} (hi : i < keep.length) : ∃ r o, Rd H r (kd keep i).s.regs ∧ Rd H o (kd keep i).s.out ∧
    H.rd (eP v i 0 5) 5 = some [.int .i64 (kd keep i).n, .int .i64 (kd keep i).s.pc, r, o, .int .i64 (kd keep i).s.code] ∧ H.rd (eP v i 0 5) 1 = some [.int .i64 (kd keep i).n] ∧ H.rd (eP v i 1 5) 4 = some [.int .i64 (kd keep i).s.pc, r, o, .int .i64 (kd keep i).s.code] := by
  obtain ⟨cs, h1, h2⟩ := h.elem hi
  obtain ⟨r, o, rfl, h3, h4⟩ := h1.kept
  rw [kd_get hi] at *
  exact ⟨r, o, h3, h4, h2 0 5 (by simp [sz]), h2 0 1 (by simp [sz]), h2 1 4 (by simp [sz])⟩

set_option maxHeartbeats 4000000 in
theorem keptOk_ok {l : List Ins} {es : List Event} {keep : List Kept} {vl ve vk : Value} {H : Heap} (hl : Rd H vl l) (he : Rd H ve es) (hk : Rd H vk keep) (hll : l.length < 2 ^ 40) (hes : es.length < 2 ^ 40) (hkl : keep.length < 2 ^ 40) :
    ICall pg 8 [vl, ve, vk] H fun res H' => Gent H H' ∧ ∃ b, res = [.bool b] ∧ (b = true ↔ KeptP l es keep) := by
  refine go8 rfl fun C hC => ?_
  by_cases hso : (replayO l es).isSome = true
  case neg =>
    have hno : (replayO l es).isSome = false := by simpa using hso
    repeat' (first
      | refine W_seq ?_
      | refine W_block ?_
      | (refine W_ret ?_; simp [hno])
      | (refine W_skip ?_; simp [hno])
      | (refine W_exit ?_; simp [hno])
      | (refine V_regc hC ?_; simp [hno])
      | (refine V_reg hC ?_; simp [hno])
      | (refine (replay_ok hl he hll hes).mono ?_; rintro _ H1 ⟨hg1, r1, o1, rfl, hw1⟩; simp [stV, hno])
      | (refine w_split rfl (fun hq => ?_) (fun hq => ?_) <;> (try simp at hq) <;> simp [hq, hno])
      | (refine V_cond rfl (fun hq => ?_) (fun hq => ?_) <;> (try simp at hq))
      | (with_reducible refine And.intro (fun hq => ?_) (fun hq => ?_))
      | (with_reducible intro hq)
      | fail)
    exact ⟨hg1, fun h => hso h.1⟩
  by_cases h0 : keep.length = 0
  · obtain rfl : keep = [] := List.length_eq_zero_iff.1 h0
    repeat' (first
      | refine W_seq ?_
      | refine W_block ?_
      | (refine W_ret ?_; simp [hk.lenV])
      | (refine W_skip ?_; simp [hk.lenV])
      | (refine W_exit ?_; simp [hk.lenV])
      | (refine V_regc hC ?_; simp [hk.lenV])
      | (refine V_reg hC ?_; simp [hk.lenV])
      | (refine (replay_ok hl he hll hes).mono ?_; rintro _ H1 ⟨hg1, r1, o1, rfl, hw1⟩; simp [stV, hso, hk.lenV])
      | (refine w_split rfl (fun hq => ?_) (fun hq => ?_) <;> (try simp at hq) <;> simp [hq, hk.lenV])
      | (refine V_cond rfl (fun hq => ?_) (fun hq => ?_) <;> (try simp at hq))
      | (with_reducible refine And.intro (fun hq => ?_) (fun hq => ?_))
      | (with_reducible intro hq)
      | fail)
    exact ⟨hg1, fun h => h.2.1 h0⟩
  have e1 : IM.elemP vk (.int .i64 0) (sz Kept) = some (eP vk 0 0 (sz Kept)) := hk.elemP (i := 0) (by omega) .i64
  have e2 : IM.addP (eP vk 0 0 5) 0 = some (eP vk 0 0 5) := hk.addP (i := 0) (by omega) 0 0 5
  have e3 : ∀ K, Gent H K → K.rd (eP vk 0 0 5) 1 = some [.int .i64 (kd keep 0).n] := fun K hK => by
    obtain ⟨_, _, _, _, _, h, _⟩ := (hk.gent hK).keptAt (i := 0) (by omega)
    exact h
  have h0' : keep ≠ [] := fun h => h0 (by simp [h])
  simp [sz] at e1
  have hgr : Gent H H := .refl _
  by_cases hn0 : (kd keep 0).n = 0
  case neg =>
    repeat' (first
      | refine W_seq ?_
      | refine W_block ?_
      | (refine W_ret ?_; simp [hk.lenV, hso, h0', hn0, e1, e2, e3 _ (by assumption)])
      | (refine W_skip ?_; simp [hk.lenV, hso, h0', hn0, e1, e2, e3 _ (by assumption)])
      | (refine W_exit ?_; simp [hk.lenV, hso, h0', hn0, e1, e2, e3 _ (by assumption)])
      | (refine V_regc hC ?_; simp [hk.lenV, hso, h0', hn0, e1, e2, e3 _ (by assumption)])
      | (refine V_reg hC ?_; simp [hk.lenV, hso, h0', hn0, e1, e2, e3 _ (by assumption)])
      | (refine (replay_ok hl he hll hes).mono ?_; rintro _ H1 ⟨hg1, r1, o1, rfl, hw1⟩; simp only [stV]; simp [hk.lenV, hso, h0', hn0, e1, e2, e3 _ (by assumption)])
      | (refine w_split rfl (fun hq => ?_) (fun hq => ?_) <;> (try simp at hq) <;> simp [hq, hk.lenV, hso, h0', hn0, e1, e2, e3 _ (by assumption)])
      | (refine V_cond rfl (fun hq => ?_) (fun hq => ?_) <;> (try simp at hq))
      | (with_reducible refine And.intro (fun hq => ?_) (fun hq => ?_))
      | (with_reducible intro hq)
      | fail)
    exact ⟨hg1, fun h => hn0 h.2.2.1⟩
  repeat' (first
    | refine W_seq ?_
    | refine W_block ?_
    | (refine W_ret ?_; simp [hk.lenV, hso, h0', hn0, e1, e2, e3 _ (by assumption)])
    | (refine W_skip ?_; simp [hk.lenV, hso, h0', hn0, e1, e2, e3 _ (by assumption)])
    | (refine W_exit ?_; simp [hk.lenV, hso, h0', hn0, e1, e2, e3 _ (by assumption)])
    | (refine V_regc hC ?_; simp [hk.lenV, hso, h0', hn0, e1, e2, e3 _ (by assumption)])
    | (refine V_reg hC ?_; simp [hk.lenV, hso, h0', hn0, e1, e2, e3 _ (by assumption)])
    | (refine (replay_ok hl he hll hes).mono ?_; rintro _ H1 ⟨hg1, r1, o1, rfl, hw1⟩; simp only [stV]; simp [hk.lenV, hso, h0', hn0, e1, e2, e3 _ (by assumption)])
    | (refine w_split rfl (fun hq => ?_) (fun hq => ?_) <;> (try simp at hq) <;> simp [hq, hk.lenV, hso, h0', hn0, e1, e2, e3 _ (by assumption)])
    | (refine V_cond rfl (fun hq => ?_) (fun hq => ?_) <;> (try simp at hq))
    | (with_reducible refine And.intro (fun hq => ?_) (fun hq => ?_))
    | (with_reducible intro hq)
    | fail)
  refine W_count keep.length (fun i st => i ≤ keep.length ∧ ∃ (a b : Option Value) (c0 c1 c2 : List Value) (H1 : Heap), st = ⟨[some vl, some ve, some vk, some (.bool false), some (.bool true), a, some vk, some (.int .i64 keep.length), some (.int .i64 i), b], [c0, c1, c2], H1⟩ ∧ Gent H H1 ∧ ∀ j, j < i → keptAt l es keep j)
    ⟨by omega, none, none, _, [], [], H1, by simp; rfl, hg1, by simp⟩ ?_
  clear hg1 hw1
  rintro i st ⟨hi, a, b, c0, c1, c2, H1, rfl, hg1, hdone⟩
  have hgr1 : Gent H1 H1 := .refl _
  by_cases hlt : i < keep.length
  · obtain ⟨r, o, hr, ho, f1, f2, f3⟩ := (hk.gent hg1).keptAt hlt
    have f0 : IM.elemP vk (.int .i64 i) (sz Kept) = some (eP vk i 0 (sz Kept)) := hk.elemP hlt .i64
    have f4 : IM.addP (eP vk i 0 5) 1 = some (eP vk i 1 5) := hk.addP hlt 0 1 5
    simp [sz] at f0
    by_cases hin : inB (kd keep i).n 0 es.length = true
    case neg =>
      have hin' : inB (kd keep i).n 0 es.length = false := by simpa using hin
      repeat' (first
        | refine W_seq ?_
        | refine W_block ?_
        | (refine W_ret ?_; simp [f0, f1, f2, f4, hlt, he.lenV, hin'])
        | (refine W_skip ?_; simp [f0, f1, f2, f4, hlt, he.lenV, hin'])
        | (refine W_exit ?_; simp [f0, f1, f2, f4, hlt, he.lenV, hin'])
        | (refine V_regc hC ?_; simp [f0, f1, f2, f4, hlt, he.lenV, hin'])
        | (refine V_reg hC ?_; simp [f0, f1, f2, f4, hlt, he.lenV, hin'])
        | (refine (in_ok _ _ _ _).mono ?_; rintro _ _ ⟨rfl, rfl⟩; simp [f0, f1, f2, f4, hlt, he.lenV, hin'])
        | (refine w_split rfl (fun hq => ?_) (fun hq => ?_) <;> (try simp at hq) <;> simp [hq, f0, f1, f2, f4, hlt, he.lenV, hin'])
        | (refine V_cond rfl (fun hq => ?_) (fun hq => ?_) <;> (try simp at hq))
        | (with_reducible refine And.intro (fun hq => ?_) (fun hq => ?_))
        | (with_reducible intro hq)
        | fail)
      exact ⟨hg1, fun h => hin (h.2.2.2 i hlt).1⟩
    have hn := hin
    simp only [inB, decide_eq_true_eq] at hn
    obtain ⟨n, hn2⟩ : ∃ n : Nat, (kd keep i).n = n := ⟨(kd keep i).n.toNat, by omega⟩
    have hcut : IM.cutS ve none (some (kd keep i).n) 3 = some (cutv ve 0 n 3) := he.cutS (lo := 0) (hi := n) (by omega) (by omega) rfl (by simpa using hn2)
    have hsz : ∀ K, Gent H K → K.szOk ve 3 = true := fun K hK => (he.gent hK).szOk
    have hcr : Rd H1 (cutv ve 0 n 3) (es.take n) := by simpa [sz, fz] using (he.gent hg1).cut (lo := 0) (hi := n) (by omega) (by omega)
    by_cases hprev : 0 < i ∧ (kd keep i).n ≤ (kd keep (i - 1)).n
    · obtain ⟨hi0, hle⟩ := hprev
      obtain ⟨_, _, _, _, _, q2, _⟩ := (hk.gent hg1).keptAt (i := i - 1) (by omega)
      have q0 : IM.elemP vk (.int .i64 ((i : Int) - 1)) (sz Kept) = some (eP vk (i - 1) 0 (sz Kept)) := by
        have := hk.elemP (i := i - 1) (by omega) .i64
        rwa [show ((i - 1 : Nat) : Int) = (i : Int) - 1 by omega] at this
      have q1 : IM.addP (eP vk (i - 1) 0 5) 0 = some (eP vk (i - 1) 0 5) := hk.addP (i := i - 1) (by omega) 0 0 5
      have q3 := wrap64 (x := (i : Int) - 1) (by omega)
      simp [sz] at q0
      repeat' (first
        | refine W_seq ?_
        | refine W_block ?_
        | (refine W_ret ?_; simp [f0, f1, f2, f4, hlt, he.lenV, hin, q0, q1, q2, q3, hi0, hle])
        | (refine W_skip ?_; simp [f0, f1, f2, f4, hlt, he.lenV, hin, q0, q1, q2, q3, hi0, hle])
        | (refine W_exit ?_; simp [f0, f1, f2, f4, hlt, he.lenV, hin, q0, q1, q2, q3, hi0, hle])
        | (refine V_regc hC ?_; simp [f0, f1, f2, f4, hlt, he.lenV, hin, q0, q1, q2, q3, hi0, hle])
        | (refine V_reg hC ?_; simp [f0, f1, f2, f4, hlt, he.lenV, hin, q0, q1, q2, q3, hi0, hle])
        | (refine (in_ok _ _ _ _).mono ?_; rintro _ _ ⟨rfl, rfl⟩; simp [f0, f1, f2, f4, hlt, he.lenV, hin, q0, q1, q2, q3, hi0, hle])
        | (refine w_split rfl (fun hq => ?_) (fun hq => ?_) <;> (try simp at hq) <;> simp [hq, f0, f1, f2, f4, hlt, he.lenV, hin, q0, q1, q2, q3, hi0, hle])
        | (refine V_cond rfl (fun hq => ?_) (fun hq => ?_) <;> (try simp at hq))
        | (with_reducible refine And.intro (fun hq => ?_) (fun hq => ?_))
        | (with_reducible intro hq)
        | fail)
      exact ⟨hg1, fun h => by have := (h.2.2.2 i hlt).2.1 hi0; omega⟩
    · have hok : 0 < i → (kd keep (i - 1)).n < (kd keep i).n := fun h => by omega
      have hlast : orZero (replayO l (es.take n)) = (kd keep i).s → keptAt l es keep i := fun h => ⟨hin, hok, by rw [hn2]; exact h⟩
      have hlast' : ¬ orZero (replayO l (es.take n)) = (kd keep i).s → ¬ KeptP l es keep := fun h k => h (by have := (k.2.2.2 i hlt).2.2; rw [hn2] at this; exact this)
      obtain ⟨lr, lo⟩ := replayO_len l (es.take n)
      by_cases hi0 : 0 < i
      · have hle : ¬ (kd keep i).n ≤ (kd keep (i - 1)).n := by have := hok hi0; omega
        obtain ⟨_, _, _, _, _, q2, _⟩ := (hk.gent hg1).keptAt (i := i - 1) (by omega)
        have q0 : IM.elemP vk (.int .i64 ((i : Int) - 1)) (sz Kept) = some (eP vk (i - 1) 0 (sz Kept)) := by
          have := hk.elemP (i := i - 1) (by omega) .i64
          rwa [show ((i - 1 : Nat) : Int) = (i : Int) - 1 by omega] at this
        have q1 : IM.addP (eP vk (i - 1) 0 5) 0 = some (eP vk (i - 1) 0 5) := hk.addP (i := i - 1) (by omega) 0 0 5
        have q3 := wrap64 (x := (i : Int) - 1) (by omega)
        simp [sz] at q0
        repeat' (first
          | refine W_seq ?_
          | refine W_block ?_
          | (refine W_ret ?_; simp [f0, f1, f2, f4, hlt, he.lenV, hin, q0, q1, q2, q3, hi0, hle, hcut, hsz _ (by assumption), rd_gent f3 (by assumption)])
          | (refine W_skip ?_; simp [f0, f1, f2, f4, hlt, he.lenV, hin, q0, q1, q2, q3, hi0, hle, hcut, hsz _ (by assumption), rd_gent f3 (by assumption)])
          | (refine W_exit ?_; simp [f0, f1, f2, f4, hlt, he.lenV, hin, q0, q1, q2, q3, hi0, hle, hcut, hsz _ (by assumption), rd_gent f3 (by assumption)])
          | (refine V_regc hC ?_; simp [f0, f1, f2, f4, hlt, he.lenV, hin, q0, q1, q2, q3, hi0, hle, hcut, hsz _ (by assumption), rd_gent f3 (by assumption)])
          | (refine V_reg hC ?_; simp [f0, f1, f2, f4, hlt, he.lenV, hin, q0, q1, q2, q3, hi0, hle, hcut, hsz _ (by assumption), rd_gent f3 (by assumption)])
          | (refine (in_ok _ _ _ _).mono ?_; rintro _ _ ⟨rfl, rfl⟩; simp [f0, f1, f2, f4, hlt, he.lenV, hin, q0, q1, q2, q3, hi0, hle, hcut, hsz _ (by assumption), rd_gent f3 (by assumption)])
          | (refine (replay_ok (hl.gent hg1) hcr hll (by simp; omega)).mono ?_; rintro _ H2 ⟨hg2, r2, o2, rfl, hw2⟩; have hgh := hg1.trans hg2; have hg2' := hg2; simp only [stV]; simp [f0, f1, f2, f4, hlt, he.lenV, hin, q0, q1, q2, q3, hi0, hle, hcut, hsz _ (by assumption), rd_gent f3 (by assumption)])
          | (refine (sameState_ok (a := orZero (replayO l (es.take n))) (b := (kd keep i).s) hw2.fst.rd hw2.snd.rd (hr.gent hg2) (ho.gent hg2) lr lo).mono ?_; rintro _ _ ⟨rfl, rfl⟩; simp [f0, f1, f2, f4, hlt, he.lenV, hin, q0, q1, q2, q3, hi0, hle, hcut, hsz _ (by assumption), rd_gent f3 (by assumption)])
          | (refine w_split rfl (fun hq => ?_) (fun hq => ?_) <;> (try simp at hq) <;> simp [hq, f0, f1, f2, f4, hlt, he.lenV, hin, q0, q1, q2, q3, hi0, hle, hcut, hsz _ (by assumption), rd_gent f3 (by assumption)])
          | (refine V_cond rfl (fun hq => ?_) (fun hq => ?_) <;> (try simp at hq))
          | (with_reducible refine And.intro (fun hq => ?_) (fun hq => ?_))
          | (with_reducible intro hq)
          | fail)
        · exact ⟨hg1.trans hg2, hlast' hq⟩
        · exact ⟨by omega, _, _, _, _, _, _, ⟨⟨rfl, wrap64 (by omega), rfl⟩, ⟨rfl, rfl, rfl⟩, rfl⟩, hg1.trans hg2, fun j hj => by
            rcases Nat.lt_or_ge j i with h | h
            · exact hdone j h
            · have : j = i := by omega
              subst this; exact hlast hq⟩
      · repeat' (first
          | refine W_seq ?_
          | refine W_block ?_
          | (refine W_ret ?_; simp [f0, f1, f2, f4, hlt, he.lenV, hin, hi0, hcut, hsz _ (by assumption), rd_gent f3 (by assumption)])
          | (refine W_skip ?_; simp [f0, f1, f2, f4, hlt, he.lenV, hin, hi0, hcut, hsz _ (by assumption), rd_gent f3 (by assumption)])
          | (refine W_exit ?_; simp [f0, f1, f2, f4, hlt, he.lenV, hin, hi0, hcut, hsz _ (by assumption), rd_gent f3 (by assumption)])
          | (refine V_regc hC ?_; simp [f0, f1, f2, f4, hlt, he.lenV, hin, hi0, hcut, hsz _ (by assumption), rd_gent f3 (by assumption)])
          | (refine V_reg hC ?_; simp [f0, f1, f2, f4, hlt, he.lenV, hin, hi0, hcut, hsz _ (by assumption), rd_gent f3 (by assumption)])
          | (refine (in_ok _ _ _ _).mono ?_; rintro _ _ ⟨rfl, rfl⟩; simp [f0, f1, f2, f4, hlt, he.lenV, hin, hi0, hcut, hsz _ (by assumption), rd_gent f3 (by assumption)])
          | (refine (replay_ok (hl.gent hg1) hcr hll (by simp; omega)).mono ?_; rintro _ H2 ⟨hg2, r2, o2, rfl, hw2⟩; have hgh := hg1.trans hg2; have hg2' := hg2; simp only [stV]; simp [f0, f1, f2, f4, hlt, he.lenV, hin, hi0, hcut, hsz _ (by assumption), rd_gent f3 (by assumption)])
          | (refine (sameState_ok (a := orZero (replayO l (es.take n))) (b := (kd keep i).s) hw2.fst.rd hw2.snd.rd (hr.gent hg2) (ho.gent hg2) lr lo).mono ?_; rintro _ _ ⟨rfl, rfl⟩; simp [f0, f1, f2, f4, hlt, he.lenV, hin, hi0, hcut, hsz _ (by assumption), rd_gent f3 (by assumption)])
          | (refine w_split rfl (fun hq => ?_) (fun hq => ?_) <;> (try simp at hq) <;> simp [hq, f0, f1, f2, f4, hlt, he.lenV, hin, hi0, hcut, hsz _ (by assumption), rd_gent f3 (by assumption)])
          | (refine V_cond rfl (fun hq => ?_) (fun hq => ?_) <;> (try simp at hq))
          | (with_reducible refine And.intro (fun hq => ?_) (fun hq => ?_))
          | (with_reducible intro hq)
          | fail)
        · exact ⟨hg1.trans hg2, hlast' hq⟩
        · exact ⟨by omega, _, _, _, _, _, _, ⟨⟨rfl, wrap64 (by omega), rfl⟩, ⟨rfl, rfl, rfl⟩, rfl⟩, hg1.trans hg2, fun j hj => by
            rcases Nat.lt_or_ge j i with h | h
            · exact hdone j h
            · have : j = i := by omega
              subst this; exact hlast hq⟩
  · repeat' (first
      | refine W_seq ?_
      | refine W_block ?_
      | (refine W_ret ?_; simp [hlt])
      | (refine W_skip ?_; simp [hlt])
      | (refine W_exit ?_; simp [hlt])
      | (refine V_regc hC ?_; simp [hlt])
      | (refine V_reg hC ?_; simp [hlt])
      | (refine w_split rfl (fun hq => ?_) (fun hq => ?_) <;> (try simp at hq) <;> simp [hq, hlt])
      | (refine V_cond rfl (fun hq => ?_) (fun hq => ?_) <;> (try simp at hq))
      | (with_reducible refine And.intro (fun hq => ?_) (fun hq => ?_))
      | (with_reducible intro hq)
      | fail)
    exact ⟨hg1, hso, h0, hn0, fun j hj => hdone j (by omega)⟩

end Go.Proofs.Ytpnbojehfngigaa.IM

/- The reference's KeptOk. -/
namespace Go.Proofs.Ytpnbojehfngigaa.IM
open Go Go.Proofs Enc Flat
set_option linter.unusedVariables false
set_option linter.unusedSimpArgs false

set_option maxHeartbeats 4000000 in
theorem sKeptOk_ok {l : List Ins} {es : List Event} {keep : List Kept} {vl ve vk : Value} {H : Heap} (hl : Rd H vl l) (he : Rd H ve es) (hk : Rd H vk keep) (hll : l.length < 2 ^ 40) (hes : es.length < 2 ^ 40) (hkl : keep.length < 2 ^ 40) :
    ICall pg 9 [vl, ve, vk] H fun res H' => Gent H H' ∧ ∃ b, res = [.bool b] ∧ (b = true ↔ KeptP l es keep) := by
  refine go9 rfl fun C hC => ?_
  by_cases hso : (replayO l es).isSome = true
  case neg =>
    have hno : (replayO l es).isSome = false := by simpa using hso
    repeat' (first
      | refine W_seq ?_
      | refine W_block ?_
      | (refine W_ret ?_; simp [hno])
      | (refine W_skip ?_; simp [hno])
      | (refine W_exit ?_; simp [hno])
      | (refine V_regc hC ?_; simp [hno])
      | (refine V_reg hC ?_; simp [hno])
      | (refine (sReplay_ok hl he hll hes).mono ?_; rintro _ H1 ⟨hg1, r1, o1, rfl, hw1⟩; simp [stV, hno])
      | (refine w_split rfl (fun hq => ?_) (fun hq => ?_) <;> (try simp at hq) <;> simp [hq, hno])
      | (refine V_cond rfl (fun hq => ?_) (fun hq => ?_) <;> (try simp at hq))
      | (with_reducible refine And.intro (fun hq => ?_) (fun hq => ?_))
      | (with_reducible intro hq)
      | fail)
    exact ⟨hg1, fun h => hso h.1⟩
  by_cases h0 : keep.length = 0
  · obtain rfl : keep = [] := List.length_eq_zero_iff.1 h0
    repeat' (first
      | refine W_seq ?_
      | refine W_block ?_
      | (refine W_ret ?_; simp [hk.lenV])
      | (refine W_skip ?_; simp [hk.lenV])
      | (refine W_exit ?_; simp [hk.lenV])
      | (refine V_regc hC ?_; simp [hk.lenV])
      | (refine V_reg hC ?_; simp [hk.lenV])
      | (refine (sReplay_ok hl he hll hes).mono ?_; rintro _ H1 ⟨hg1, r1, o1, rfl, hw1⟩; simp [stV, hso, hk.lenV])
      | (refine w_split rfl (fun hq => ?_) (fun hq => ?_) <;> (try simp at hq) <;> simp [hq, hk.lenV])
      | (refine V_cond rfl (fun hq => ?_) (fun hq => ?_) <;> (try simp at hq))
      | (with_reducible refine And.intro (fun hq => ?_) (fun hq => ?_))
      | (with_reducible intro hq)
      | fail)
    exact ⟨hg1, fun h => h.2.1 h0⟩
  have e1 : IM.elemP vk (.int .i64 0) (sz Kept) = some (eP vk 0 0 (sz Kept)) := hk.elemP (i := 0) (by omega) .i64
  have e2 : IM.addP (eP vk 0 0 5) 0 = some (eP vk 0 0 5) := hk.addP (i := 0) (by omega) 0 0 5
  have e3 : ∀ K, Gent H K → K.rd (eP vk 0 0 5) 1 = some [.int .i64 (kd keep 0).n] := fun K hK => by
    obtain ⟨_, _, _, _, _, h, _⟩ := (hk.gent hK).keptAt (i := 0) (by omega)
    exact h
  have h0' : keep ≠ [] := fun h => h0 (by simp [h])
  simp [sz] at e1
  have hgr : Gent H H := .refl _
  by_cases hn0 : (kd keep 0).n = 0
  case neg =>
    repeat' (first
      | refine W_seq ?_
      | refine W_block ?_
      | (refine W_ret ?_; simp [hk.lenV, hso, h0', hn0, e1, e2, e3 _ (by assumption)])
      | (refine W_skip ?_; simp [hk.lenV, hso, h0', hn0, e1, e2, e3 _ (by assumption)])
      | (refine W_exit ?_; simp [hk.lenV, hso, h0', hn0, e1, e2, e3 _ (by assumption)])
      | (refine V_regc hC ?_; simp [hk.lenV, hso, h0', hn0, e1, e2, e3 _ (by assumption)])
      | (refine V_reg hC ?_; simp [hk.lenV, hso, h0', hn0, e1, e2, e3 _ (by assumption)])
      | (refine (sReplay_ok hl he hll hes).mono ?_; rintro _ H1 ⟨hg1, r1, o1, rfl, hw1⟩; simp only [stV]; simp [hk.lenV, hso, h0', hn0, e1, e2, e3 _ (by assumption)])
      | (refine w_split rfl (fun hq => ?_) (fun hq => ?_) <;> (try simp at hq) <;> simp [hq, hk.lenV, hso, h0', hn0, e1, e2, e3 _ (by assumption)])
      | (refine V_cond rfl (fun hq => ?_) (fun hq => ?_) <;> (try simp at hq))
      | (with_reducible refine And.intro (fun hq => ?_) (fun hq => ?_))
      | (with_reducible intro hq)
      | fail)
    exact ⟨hg1, fun h => hn0 h.2.2.1⟩
  repeat' (first
    | refine W_seq ?_
    | refine W_block ?_
    | (refine W_ret ?_; simp [hk.lenV, hso, h0', hn0, e1, e2, e3 _ (by assumption)])
    | (refine W_skip ?_; simp [hk.lenV, hso, h0', hn0, e1, e2, e3 _ (by assumption)])
    | (refine W_exit ?_; simp [hk.lenV, hso, h0', hn0, e1, e2, e3 _ (by assumption)])
    | (refine V_regc hC ?_; simp [hk.lenV, hso, h0', hn0, e1, e2, e3 _ (by assumption)])
    | (refine V_reg hC ?_; simp [hk.lenV, hso, h0', hn0, e1, e2, e3 _ (by assumption)])
    | (refine (sReplay_ok hl he hll hes).mono ?_; rintro _ H1 ⟨hg1, r1, o1, rfl, hw1⟩; simp only [stV]; simp [hk.lenV, hso, h0', hn0, e1, e2, e3 _ (by assumption)])
    | (refine w_split rfl (fun hq => ?_) (fun hq => ?_) <;> (try simp at hq) <;> simp [hq, hk.lenV, hso, h0', hn0, e1, e2, e3 _ (by assumption)])
    | (refine V_cond rfl (fun hq => ?_) (fun hq => ?_) <;> (try simp at hq))
    | (with_reducible refine And.intro (fun hq => ?_) (fun hq => ?_))
    | (with_reducible intro hq)
    | fail)
  refine W_count keep.length (fun i st => i ≤ keep.length ∧ ∃ (c0 c1 : List Value) (H1 : Heap), st = ⟨[some vl, some ve, some vk, some (.bool false), some (.bool true), some (.int .i64 i)], [c0, c1], H1⟩ ∧ Gent H H1 ∧ ∀ j, j < i → keptAt l es keep j)
    ⟨by omega, _, [], H1, by simp; rfl, hg1, by simp⟩ ?_
  clear hg1 hw1
  rintro i st ⟨hi, c0, c1, H1, rfl, hg1, hdone⟩
  have hgr1 : Gent H1 H1 := .refl _
  by_cases hlt : i < keep.length
  · obtain ⟨r, o, hr, ho, f1, f2, f3⟩ := (hk.gent hg1).keptAt hlt
    have f0 : IM.elemP vk (.int .i64 i) (sz Kept) = some (eP vk i 0 (sz Kept)) := hk.elemP hlt .i64
    have f4 : IM.addP (eP vk i 0 5) 1 = some (eP vk i 1 5) := hk.addP hlt 0 1 5
    have f5 : IM.addP (eP vk i 0 5) 0 = some (eP vk i 0 5) := hk.addP hlt 0 0 5
    simp [sz] at f0
    by_cases hin : inB (kd keep i).n 0 es.length = true
    case neg =>
      have hin' : inB (kd keep i).n 0 es.length = false := by simpa using hin
      repeat' (first
        | refine W_seq ?_
        | refine W_block ?_
        | (refine W_ret ?_; simp [f0, rd_gent f1 (by assumption), rd_gent f2 (by assumption), f4, f5, hlt, hk.lenV, he.lenV, hin'])
        | (refine W_skip ?_; simp [f0, rd_gent f1 (by assumption), rd_gent f2 (by assumption), f4, f5, hlt, hk.lenV, he.lenV, hin'])
        | (refine W_exit ?_; simp [f0, rd_gent f1 (by assumption), rd_gent f2 (by assumption), f4, f5, hlt, hk.lenV, he.lenV, hin'])
        | (refine V_regc hC ?_; simp [f0, rd_gent f1 (by assumption), rd_gent f2 (by assumption), f4, f5, hlt, hk.lenV, he.lenV, hin'])
        | (refine V_reg hC ?_; simp [f0, rd_gent f1 (by assumption), rd_gent f2 (by assumption), f4, f5, hlt, hk.lenV, he.lenV, hin'])
        | (refine (l1In_ok _ _ _ _).mono ?_; rintro _ _ ⟨rfl, rfl⟩; simp [f0, rd_gent f1 (by assumption), rd_gent f2 (by assumption), f4, f5, hlt, hk.lenV, he.lenV, hin'])
        | (refine w_split rfl (fun hq => ?_) (fun hq => ?_) <;> (try simp at hq) <;> simp [hq, f0, rd_gent f1 (by assumption), rd_gent f2 (by assumption), f4, f5, hlt, hk.lenV, he.lenV, hin'])
        | (refine V_cond rfl (fun hq => ?_) (fun hq => ?_) <;> (try simp at hq))
        | (with_reducible refine And.intro (fun hq => ?_) (fun hq => ?_))
        | (with_reducible intro hq)
        | fail)
      exact ⟨hg1, fun h => hin (h.2.2.2 i hlt).1⟩
    have hn := hin
    simp only [inB, decide_eq_true_eq] at hn
    obtain ⟨n, hn2⟩ : ∃ n : Nat, (kd keep i).n = n := ⟨(kd keep i).n.toNat, by omega⟩
    have hcut : IM.cutS ve none (some (kd keep i).n) 3 = some (cutv ve 0 n 3) := he.cutS (lo := 0) (hi := n) (by omega) (by omega) rfl (by simpa using hn2)
    have hsz : ∀ K, Gent H K → K.szOk ve 3 = true := fun K hK => (he.gent hK).szOk
    have hcr : Rd H1 (cutv ve 0 n 3) (es.take n) := by simpa [sz, fz] using (he.gent hg1).cut (lo := 0) (hi := n) (by omega) (by omega)
    by_cases hprev : 0 < i ∧ (kd keep i).n ≤ (kd keep (i - 1)).n
    · obtain ⟨hi0, hle⟩ := hprev
      obtain ⟨_, _, _, _, _, q2, _⟩ := (hk.gent hg1).keptAt (i := i - 1) (by omega)
      have q0 : IM.elemP vk (.int .i64 ((i : Int) - 1)) (sz Kept) = some (eP vk (i - 1) 0 (sz Kept)) := by
        have := hk.elemP (i := i - 1) (by omega) .i64
        rwa [show ((i - 1 : Nat) : Int) = (i : Int) - 1 by omega] at this
      have q1 : IM.addP (eP vk (i - 1) 0 5) 0 = some (eP vk (i - 1) 0 5) := hk.addP (i := i - 1) (by omega) 0 0 5
      have q3 := wrap64 (x := (i : Int) - 1) (by omega)
      simp [sz] at q0
      repeat' (first
        | refine W_seq ?_
        | refine W_block ?_
        | (refine W_ret ?_; simp [f0, rd_gent f1 (by assumption), rd_gent f2 (by assumption), f4, f5, hlt, hk.lenV, he.lenV, hin, q0, q1, q2, q3, hi0, hle])
        | (refine W_skip ?_; simp [f0, rd_gent f1 (by assumption), rd_gent f2 (by assumption), f4, f5, hlt, hk.lenV, he.lenV, hin, q0, q1, q2, q3, hi0, hle])
        | (refine W_exit ?_; simp [f0, rd_gent f1 (by assumption), rd_gent f2 (by assumption), f4, f5, hlt, hk.lenV, he.lenV, hin, q0, q1, q2, q3, hi0, hle])
        | (refine V_regc hC ?_; simp [f0, rd_gent f1 (by assumption), rd_gent f2 (by assumption), f4, f5, hlt, hk.lenV, he.lenV, hin, q0, q1, q2, q3, hi0, hle])
        | (refine V_reg hC ?_; simp [f0, rd_gent f1 (by assumption), rd_gent f2 (by assumption), f4, f5, hlt, hk.lenV, he.lenV, hin, q0, q1, q2, q3, hi0, hle])
        | (refine (l1In_ok _ _ _ _).mono ?_; rintro _ _ ⟨rfl, rfl⟩; simp [f0, rd_gent f1 (by assumption), rd_gent f2 (by assumption), f4, f5, hlt, hk.lenV, he.lenV, hin, q0, q1, q2, q3, hi0, hle])
        | (refine w_split rfl (fun hq => ?_) (fun hq => ?_) <;> (try simp at hq) <;> simp [hq, f0, rd_gent f1 (by assumption), rd_gent f2 (by assumption), f4, f5, hlt, hk.lenV, he.lenV, hin, q0, q1, q2, q3, hi0, hle])
        | (refine V_cond rfl (fun hq => ?_) (fun hq => ?_) <;> (try simp at hq))
        | (with_reducible refine And.intro (fun hq => ?_) (fun hq => ?_))
        | (with_reducible intro hq)
        | fail)
      exact ⟨hg1, fun h => by have := (h.2.2.2 i hlt).2.1 hi0; omega⟩
    · have hok : 0 < i → (kd keep (i - 1)).n < (kd keep i).n := fun h => by omega
      have hlast : orZero (replayO l (es.take n)) = (kd keep i).s → keptAt l es keep i := fun h => ⟨hin, hok, by rw [hn2]; exact h⟩
      have hlast' : ¬ orZero (replayO l (es.take n)) = (kd keep i).s → ¬ KeptP l es keep := fun h k => h (by have := (k.2.2.2 i hlt).2.2; rw [hn2] at this; exact this)
      obtain ⟨lr, lo⟩ := replayO_len l (es.take n)
      by_cases hi0 : 0 < i
      · have hle : ¬ (kd keep i).n ≤ (kd keep (i - 1)).n := by have := hok hi0; omega
        obtain ⟨_, _, _, _, _, q2, _⟩ := (hk.gent hg1).keptAt (i := i - 1) (by omega)
        have q0 : IM.elemP vk (.int .i64 ((i : Int) - 1)) (sz Kept) = some (eP vk (i - 1) 0 (sz Kept)) := by
          have := hk.elemP (i := i - 1) (by omega) .i64
          rwa [show ((i - 1 : Nat) : Int) = (i : Int) - 1 by omega] at this
        have q1 : IM.addP (eP vk (i - 1) 0 5) 0 = some (eP vk (i - 1) 0 5) := hk.addP (i := i - 1) (by omega) 0 0 5
        have q3 := wrap64 (x := (i : Int) - 1) (by omega)
        simp [sz] at q0
        repeat' (first
          | refine W_seq ?_
          | refine W_block ?_
          | (refine W_ret ?_; simp [f0, rd_gent f1 (by assumption), rd_gent f2 (by assumption), f4, f5, hlt, hk.lenV, he.lenV, hin, q0, q1, q2, q3, hi0, hle, hcut, hsz _ (by assumption), rd_gent f3 (by assumption)])
          | (refine W_skip ?_; simp [f0, rd_gent f1 (by assumption), rd_gent f2 (by assumption), f4, f5, hlt, hk.lenV, he.lenV, hin, q0, q1, q2, q3, hi0, hle, hcut, hsz _ (by assumption), rd_gent f3 (by assumption)])
          | (refine W_exit ?_; simp [f0, rd_gent f1 (by assumption), rd_gent f2 (by assumption), f4, f5, hlt, hk.lenV, he.lenV, hin, q0, q1, q2, q3, hi0, hle, hcut, hsz _ (by assumption), rd_gent f3 (by assumption)])
          | (refine V_regc hC ?_; simp [f0, rd_gent f1 (by assumption), rd_gent f2 (by assumption), f4, f5, hlt, hk.lenV, he.lenV, hin, q0, q1, q2, q3, hi0, hle, hcut, hsz _ (by assumption), rd_gent f3 (by assumption)])
          | (refine V_reg hC ?_; simp [f0, rd_gent f1 (by assumption), rd_gent f2 (by assumption), f4, f5, hlt, hk.lenV, he.lenV, hin, q0, q1, q2, q3, hi0, hle, hcut, hsz _ (by assumption), rd_gent f3 (by assumption)])
          | (refine (l1In_ok _ _ _ _).mono ?_; rintro _ _ ⟨rfl, rfl⟩; simp [f0, rd_gent f1 (by assumption), rd_gent f2 (by assumption), f4, f5, hlt, hk.lenV, he.lenV, hin, q0, q1, q2, q3, hi0, hle, hcut, hsz _ (by assumption), rd_gent f3 (by assumption)])
          | (refine (sReplay_ok (hl.gent hg1) hcr hll (by simp; omega)).mono ?_; rintro _ H2 ⟨hg2, r2, o2, rfl, hw2⟩; have hgh := hg1.trans hg2; have hg2' := hg2; simp only [stV]; simp [f0, rd_gent f1 (by assumption), rd_gent f2 (by assumption), f4, f5, hlt, hk.lenV, he.lenV, hin, q0, q1, q2, q3, hi0, hle, hcut, hsz _ (by assumption), rd_gent f3 (by assumption)])
          | (refine (l4SameState_ok (a := orZero (replayO l (es.take n))) (b := (kd keep i).s) hw2.fst.rd hw2.snd.rd (hr.gent hg2) (ho.gent hg2) lr lo).mono ?_; rintro _ _ ⟨rfl, rfl⟩; simp [f0, rd_gent f1 (by assumption), rd_gent f2 (by assumption), f4, f5, hlt, hk.lenV, he.lenV, hin, q0, q1, q2, q3, hi0, hle, hcut, hsz _ (by assumption), rd_gent f3 (by assumption)])
          | (refine w_split rfl (fun hq => ?_) (fun hq => ?_) <;> (try simp at hq) <;> simp [hq, f0, rd_gent f1 (by assumption), rd_gent f2 (by assumption), f4, f5, hlt, hk.lenV, he.lenV, hin, q0, q1, q2, q3, hi0, hle, hcut, hsz _ (by assumption), rd_gent f3 (by assumption)])
          | (refine V_cond rfl (fun hq => ?_) (fun hq => ?_) <;> (try simp at hq))
          | (with_reducible refine And.intro (fun hq => ?_) (fun hq => ?_))
          | (with_reducible intro hq)
          | fail)
        · exact ⟨hg1.trans hg2, hlast' hq⟩
        · exact ⟨by omega, _, _, _, ⟨wrap64 (by omega), ⟨rfl, rfl⟩, rfl⟩, hg1.trans hg2, fun j hj => by
            rcases Nat.lt_or_ge j i with h | h
            · exact hdone j h
            · have : j = i := by omega
              subst this; exact hlast hq⟩
      · repeat' (first
          | refine W_seq ?_
          | refine W_block ?_
          | (refine W_ret ?_; simp [f0, rd_gent f1 (by assumption), rd_gent f2 (by assumption), f4, f5, hlt, hk.lenV, he.lenV, hin, hi0, hcut, hsz _ (by assumption), rd_gent f3 (by assumption)])
          | (refine W_skip ?_; simp [f0, rd_gent f1 (by assumption), rd_gent f2 (by assumption), f4, f5, hlt, hk.lenV, he.lenV, hin, hi0, hcut, hsz _ (by assumption), rd_gent f3 (by assumption)])
          | (refine W_exit ?_; simp [f0, rd_gent f1 (by assumption), rd_gent f2 (by assumption), f4, f5, hlt, hk.lenV, he.lenV, hin, hi0, hcut, hsz _ (by assumption), rd_gent f3 (by assumption)])
          | (refine V_regc hC ?_; simp [f0, rd_gent f1 (by assumption), rd_gent f2 (by assumption), f4, f5, hlt, hk.lenV, he.lenV, hin, hi0, hcut, hsz _ (by assumption), rd_gent f3 (by assumption)])
          | (refine V_reg hC ?_; simp [f0, rd_gent f1 (by assumption), rd_gent f2 (by assumption), f4, f5, hlt, hk.lenV, he.lenV, hin, hi0, hcut, hsz _ (by assumption), rd_gent f3 (by assumption)])
          | (refine (l1In_ok _ _ _ _).mono ?_; rintro _ _ ⟨rfl, rfl⟩; simp [f0, rd_gent f1 (by assumption), rd_gent f2 (by assumption), f4, f5, hlt, hk.lenV, he.lenV, hin, hi0, hcut, hsz _ (by assumption), rd_gent f3 (by assumption)])
          | (refine (sReplay_ok (hl.gent hg1) hcr hll (by simp; omega)).mono ?_; rintro _ H2 ⟨hg2, r2, o2, rfl, hw2⟩; have hgh := hg1.trans hg2; have hg2' := hg2; simp only [stV]; simp [f0, rd_gent f1 (by assumption), rd_gent f2 (by assumption), f4, f5, hlt, hk.lenV, he.lenV, hin, hi0, hcut, hsz _ (by assumption), rd_gent f3 (by assumption)])
          | (refine (l4SameState_ok (a := orZero (replayO l (es.take n))) (b := (kd keep i).s) hw2.fst.rd hw2.snd.rd (hr.gent hg2) (ho.gent hg2) lr lo).mono ?_; rintro _ _ ⟨rfl, rfl⟩; simp [f0, rd_gent f1 (by assumption), rd_gent f2 (by assumption), f4, f5, hlt, hk.lenV, he.lenV, hin, hi0, hcut, hsz _ (by assumption), rd_gent f3 (by assumption)])
          | (refine w_split rfl (fun hq => ?_) (fun hq => ?_) <;> (try simp at hq) <;> simp [hq, f0, rd_gent f1 (by assumption), rd_gent f2 (by assumption), f4, f5, hlt, hk.lenV, he.lenV, hin, hi0, hcut, hsz _ (by assumption), rd_gent f3 (by assumption)])
          | (refine V_cond rfl (fun hq => ?_) (fun hq => ?_) <;> (try simp at hq))
          | (with_reducible refine And.intro (fun hq => ?_) (fun hq => ?_))
          | (with_reducible intro hq)
          | fail)
        · exact ⟨hg1.trans hg2, hlast' hq⟩
        · exact ⟨by omega, _, _, _, ⟨wrap64 (by omega), ⟨rfl, rfl⟩, rfl⟩, hg1.trans hg2, fun j hj => by
            rcases Nat.lt_or_ge j i with h | h
            · exact hdone j h
            · have : j = i := by omega
              subst this; exact hlast hq⟩
  · repeat' (first
      | refine W_seq ?_
      | refine W_block ?_
      | (refine W_ret ?_; simp [hlt, hk.lenV])
      | (refine W_skip ?_; simp [hlt, hk.lenV])
      | (refine W_exit ?_; simp [hlt, hk.lenV])
      | (refine V_regc hC ?_; simp [hlt, hk.lenV])
      | (refine V_reg hC ?_; simp [hlt, hk.lenV])
      | (refine w_split rfl (fun hq => ?_) (fun hq => ?_) <;> (try simp at hq) <;> simp [hq, hlt, hk.lenV])
      | (refine V_cond rfl (fun hq => ?_) (fun hq => ?_) <;> (try simp at hq))
      | (with_reducible refine And.intro (fun hq => ?_) (fun hq => ?_))
      | (with_reducible intro hq)
      | fail)
    exact ⟨hg1, hso, h0, hn0, fun j hj => hdone j (by omega)⟩

end Go.Proofs.Ytpnbojehfngigaa.IM

/- Restore and Again, of both. -/
namespace Go.Proofs.Ytpnbojehfngigaa.IM
open Go Go.Proofs Enc Flat
set_option linter.unusedVariables false
set_option linter.unusedSimpArgs false

theorem replayFrom_append {l : List Ins} : ∀ {a b : List Event} {s : State}, replayFrom l s (a ++ b) = (replayFrom l s a).bind fun t => replayFrom l t b
  | [], b, s => rfl
  | e :: a, b, s => by
    simp only [List.cons_append, replayFrom]
    split
    · exact replayFrom_append
    · rfl

theorem replayO_some {l : List Ins} {es : List Event} (h : (replayO l es).isSome = true) : progOk l 4 = true ∧ es.length ≤ 200 ∧ ∃ s, replayFrom l .start es = some s := by
  unfold replayO at h
  split at h
  · rename_i hh
    exact ⟨hh.1, hh.2, Option.isSome_iff_exists.1 h⟩
  · simp at h

theorem replayO_take {l : List Ins} {es : List Event} (h : (replayO l es).isSome = true) (m : Nat) : ∃ s, replayFrom l .start (es.take m) = some s ∧ replayO l (es.take m) = some s := by
  obtain ⟨h1, h2, s, h3⟩ := replayO_some h
  rw [← List.take_append_drop m es, replayFrom_append] at h3
  cases hq : replayFrom l .start (es.take m) with
  | none => rw [hq] at h3; simp at h3
  | some t =>
    refine ⟨t, rfl, ?_⟩
    unfold replayO
    rw [if_pos ⟨h1, by simp; omega⟩, hq]

theorem kept_state {l : List Ins} {es : List Event} {keep : List Kept} (h : KeptP l es keep) {i : Nat} (hi : i < keep.length) :
    Prg l ∧ ∃ m : Nat, (kd keep i).n = m ∧ m ≤ es.length ∧ replayFrom l .start (es.take m) = some (kd keep i).s ∧ Fit l (kd keep i).s ∧ (kd keep i).s.out.length ≤ 60 := by
  have hp := Prg.of (replayO_some h.1).1
  obtain ⟨h1, _, h3⟩ := h.2.2.2 i hi
  simp only [inB, decide_eq_true_eq] at h1
  obtain ⟨s, h4, h5⟩ := replayO_take h.1 (kd keep i).n.toNat
  rw [h5] at h3
  simp only [orZero, Option.getD_some] at h3
  obtain ⟨h6, h7⟩ := replayFrom_fit (start_fit hp) (by simp [State.start]) h4
  rw [h3] at h4 h6 h7
  exact ⟨hp, (kd keep i).n.toNat, by omega, by omega, h4, h6, h7⟩

def lastIdx (keep : List Kept) (n : Int) : Nat → Nat
  | 0 => 0
  | i + 1 => if (kd keep i).n ≤ n then i else lastIdx keep n i

theorem lastIdx_spec {keep : List Kept} {n : Int} (h0 : (kd keep 0).n ≤ n) : ∀ i, (kd keep (lastIdx keep n i)).n ≤ n ∧ (lastIdx keep n i = 0 ∨ lastIdx keep n i < i)
  | 0 => ⟨h0, .inl rfl⟩
  | i + 1 => by
    simp only [lastIdx]
    split
    · exact ⟨by assumption, .inr (by omega)⟩
    · obtain ⟨h1, h2⟩ := lastIdx_spec h0 i
      exact ⟨h1, by omega⟩

theorem restore_eq {l : List Ins} {es : List Event} {m n : Nat} {s : State} (h : (replayO l es).isSome = true) (hs : replayFrom l .start (es.take m) = some s) (hmn : m ≤ n) : replayFrom l s ((es.take n).drop m) = replayO l (es.take n) := by
  obtain ⟨t, h1, h2⟩ := replayO_take h n
  have e : es.take n = es.take m ++ (es.take n).drop m := by
    conv => lhs; rw [← List.take_append_drop m (es.take n)]
    rw [List.take_take, Nat.min_eq_left hmn]
  rw [h2]
  rw [e, replayFrom_append, hs] at h1
  exact h1

/-- What Restore tells. -/
def RestP (l : List Ins) (es : List Event) (keep : List Kept) (n : Int) (s : State) (d : Int) : Prop :=
  (KeptP l es keep ∧ 0 ≤ n ∧ n ≤ es.length ∧ s = orZero (replayO l (es.take n.toNat)) ∧ d = n - (kd keep (lastIdx keep n keep.length)).n) ∨ (¬ (KeptP l es keep ∧ 0 ≤ n ∧ n ≤ es.length) ∧ s = .zero ∧ d = -1)

set_option maxHeartbeats 4000000 in
theorem restore_ok {l : List Ins} {es : List Event} {keep : List Kept} {n : Int} {vl ve vk : Value} {H : Heap} (hl : Rd H vl l) (he : Rd H ve es) (hk : Rd H vk keep) (hll : l.length < 2 ^ 40) (hes : es.length < 2 ^ 40) (hkl : keep.length < 2 ^ 40) :
    ICall pg 6 [vl, ve, vk, .int .i64 n] H fun res H' => Gent H H' ∧ ∃ s r' o' d, res = [stV s r' o', .int .i64 d] ∧ Own2 H.length H' r' s.regs o' s.out ∧ RestP l es keep n s d := by
  refine go6 rfl fun C hC => ?_
  by_cases hn : 0 ≤ n ∧ n ≤ es.length
  case neg =>
    have hin : inB n 0 es.length = false := by simpa [inB] using hn
    repeat' (first
      | refine W_seq ?_
      | refine W_block ?_
      | (refine W_ret ?_; simp [he.lenV, hin])
      | (refine W_skip ?_; simp [he.lenV, hin])
      | (refine W_exit ?_; simp [he.lenV, hin])
      | (refine V_regc hC ?_; simp [he.lenV, hin])
      | (refine V_reg hC ?_; simp [he.lenV, hin])
      | (refine (keptOk_ok hl he hk hll hes hkl).mono ?_; rintro _ H1 ⟨hg1, b, rfl, hb⟩; simp [he.lenV, hin])
      | (refine (in_ok _ _ _ _).mono ?_; rintro _ _ ⟨rfl, rfl⟩; simp [he.lenV, hin])
      | (refine w_split rfl (fun hq => ?_) (fun hq => ?_) <;> (try simp at hq) <;> simp [hq, he.lenV, hin])
      | (refine V_cond rfl (fun hq => ?_) (fun hq => ?_) <;> (try simp at hq))
      | (with_reducible refine And.intro (fun hq => ?_) (fun hq => ?_))
      | (with_reducible intro hq)
      | fail)
    all_goals exact ⟨hg1, .zero, _, _, _, ⟨rfl, rfl⟩, .nil, .inr ⟨fun h => hn h.2, rfl, rfl⟩⟩
  have hin : inB n 0 es.length = true := by simpa [inB] using hn
  by_cases hkp : KeptP l es keep
  case neg =>
    have hb' : ∀ b : Bool, (b = true ↔ KeptP l es keep) → b = false := fun b h => by cases b with
      | false => rfl
      | true => exact absurd (h.1 rfl) hkp
    repeat' (first
      | refine W_seq ?_
      | refine W_block ?_
      | (refine W_ret ?_; simp [he.lenV])
      | (refine W_skip ?_; simp [he.lenV])
      | (refine W_exit ?_; simp [he.lenV])
      | (refine V_regc hC ?_; simp [he.lenV])
      | (refine V_reg hC ?_; simp [he.lenV])
      | (refine (keptOk_ok hl he hk hll hes hkl).mono ?_; rintro _ H1 ⟨hg1, b, rfl, hb⟩; rw [hb' b hb]; simp [he.lenV])
      | (refine w_split rfl (fun hq => ?_) (fun hq => ?_) <;> (try simp at hq) <;> simp [hq, he.lenV])
      | (refine V_cond rfl (fun hq => ?_) (fun hq => ?_) <;> (try simp at hq))
      | (with_reducible refine And.intro (fun hq => ?_) (fun hq => ?_))
      | (with_reducible intro hq)
      | fail)
    exact ⟨hg1, .zero, _, _, _, ⟨rfl, rfl⟩, .nil, .inr ⟨fun h => hkp h.1, rfl, rfl⟩⟩
  obtain ⟨nn, rfl⟩ : ∃ nn : Nat, n = nn := ⟨n.toNat, by omega⟩
  have hk0 : 0 < keep.length := by have := hkp.2.1; omega
  have hf0 : (kd keep 0).n ≤ nn := by rw [hkp.2.2.1]; omega
  have e1 : IM.elemP vk (.int .i64 0) (sz Kept) = some (eP vk 0 0 (sz Kept)) := hk.elemP (i := 0) hk0 .i64
  simp [sz] at e1
  have hgr : Gent H H := .refl _
  have f0 : ∀ K, Gent H K → ∃ r o, Rd K r (kd keep 0).s.regs ∧ Rd K o (kd keep 0).s.out ∧ K.rd (eP vk 0 0 5) 5 = some [.int .i64 (kd keep 0).n, .int .i64 (kd keep 0).s.pc, r, o, .int .i64 (kd keep 0).s.code] := fun K hK => by
    obtain ⟨r, o, h1, h2, h3, _⟩ := (hk.gent hK).keptAt hk0
    exact ⟨r, o, h1, h2, h3⟩
  repeat' (first
    | refine W_seq ?_
    | refine W_block ?_
    | (refine W_ret ?_; simp [he.lenV, hk.lenV, hin, e1])
    | (refine W_skip ?_; simp [he.lenV, hk.lenV, hin, e1])
    | (refine W_exit ?_; simp [he.lenV, hk.lenV, hin, e1])
    | (refine V_regc hC ?_; simp [he.lenV, hk.lenV, hin, e1])
    | (refine V_reg hC ?_; simp [he.lenV, hk.lenV, hin, e1])
    | (refine (keptOk_ok hl he hk hll hes hkl).mono ?_; rintro _ H1 ⟨hg1, b, rfl, hb⟩; rw [hb.2 hkp]; simp [he.lenV, hk.lenV, hin, e1])
    | (refine (in_ok _ _ _ _).mono ?_; rintro _ _ ⟨rfl, rfl⟩; simp [he.lenV, hk.lenV, hin, e1])
    | (refine w_split rfl (fun hq => ?_) (fun hq => ?_) <;> (try simp at hq) <;> simp [hq, he.lenV, hk.lenV, hin, e1])
    | (refine V_cond rfl (fun hq => ?_) (fun hq => ?_) <;> (try simp at hq))
    | (with_reducible refine And.intro (fun hq => ?_) (fun hq => ?_))
    | (with_reducible intro hq)
    | fail)
  obtain ⟨r0, o0, hr0, ho0, e2⟩ := f0 H1 hg1
  all_goals (
    (try simp [he.lenV, hk.lenV, hin, e1, e2])
    repeat' (first
      | refine W_seq ?_
      | refine W_block ?_
      | (refine W_ret ?_; simp [he.lenV, hk.lenV, hin, e1, e2])
      | (refine W_skip ?_; simp [he.lenV, hk.lenV, hin, e1, e2])
      | (refine W_exit ?_; simp [he.lenV, hk.lenV, hin, e1, e2])
      | (refine V_regc hC ?_; simp [he.lenV, hk.lenV, hin, e1, e2])
      | (refine V_reg hC ?_; simp [he.lenV, hk.lenV, hin, e1, e2])
      | (refine w_split rfl (fun hq => ?_) (fun hq => ?_) <;> (try simp at hq) <;> simp [hq, he.lenV, hk.lenV, hin, e1, e2])
      | (refine V_cond rfl (fun hq => ?_) (fun hq => ?_) <;> (try simp at hq))
      | (with_reducible refine And.intro (fun hq => ?_) (fun hq => ?_))
      | (with_reducible intro hq)
      | fail))
  refine W_count keep.length (fun i st => i ≤ keep.length ∧ ∃ (a : Option Value) (r o : Value) (c2 : List Value), st = ⟨[some vl, some ve, some vk, some (.int .i64 nn), some (.int .i64 0), some vk, some (.int .i64 keep.length), some (.int .i64 i), a],
    [[.int .i64 0, .slice none 0 0, .slice none 0 0, .int .i64 0], [.int .i64 (kd keep (lastIdx keep nn i)).n, .int .i64 (kd keep (lastIdx keep nn i)).s.pc, r, o, .int .i64 (kd keep (lastIdx keep nn i)).s.code], c2, []], H1⟩ ∧ Rd H1 r (kd keep (lastIdx keep nn i)).s.regs ∧ Rd H1 o (kd keep (lastIdx keep nn i)).s.out)
    ⟨by omega, none, r0, o0, [], by simp [lastIdx], hr0, ho0⟩ ?_
  rintro i st ⟨hi, a, r, o, c2, rfl, hr, ho⟩
  by_cases hlt : i < keep.length
  · obtain ⟨r2, o2, hr2, ho2, q2, _⟩ := (hk.gent hg1).keptAt hlt
    have q1 : IM.elemP vk (.int .i64 i) (sz Kept) = some (eP vk i 0 (sz Kept)) := hk.elemP hlt .i64
    simp [sz] at q1
    by_cases hle : (kd keep i).n ≤ nn
    · have hli : lastIdx keep nn (i + 1) = i := by simp [lastIdx, hle]
      repeat' (first
        | refine W_seq ?_
        | refine W_block ?_
        | (refine W_ret ?_; simp [q1, q2, hlt, hle])
        | (refine W_skip ?_; simp [q1, q2, hlt, hle])
        | (refine W_exit ?_; simp [q1, q2, hlt, hle])
        | (refine V_regc hC ?_; simp [q1, q2, hlt, hle])
        | (refine V_reg hC ?_; simp [q1, q2, hlt, hle])
        | (refine w_split rfl (fun hq => ?_) (fun hq => ?_) <;> (try simp at hq) <;> simp [hq, q1, q2, hlt, hle])
        | (refine V_cond rfl (fun hq => ?_) (fun hq => ?_) <;> (try simp at hq))
        | (with_reducible refine And.intro (fun hq => ?_) (fun hq => ?_))
        | (with_reducible intro hq)
        | fail)
      rw [hli]
      exact ⟨by omega, _, _, _, ⟨⟨wrap64 (by omega), rfl⟩, rfl, rfl, rfl, rfl, rfl⟩, hr2, ho2⟩
    · have hli : lastIdx keep nn (i + 1) = lastIdx keep nn i := by simp [lastIdx, hle]
      repeat' (first
        | refine W_seq ?_
        | refine W_block ?_
        | (refine W_ret ?_; simp [q1, q2, hlt, hle])
        | (refine W_skip ?_; simp [q1, q2, hlt, hle])
        | (refine W_exit ?_; simp [q1, q2, hlt, hle])
        | (refine V_regc hC ?_; simp [q1, q2, hlt, hle])
        | (refine V_reg hC ?_; simp [q1, q2, hlt, hle])
        | (refine w_split rfl (fun hq => ?_) (fun hq => ?_) <;> (try simp at hq) <;> simp [hq, q1, q2, hlt, hle])
        | (refine V_cond rfl (fun hq => ?_) (fun hq => ?_) <;> (try simp at hq))
        | (with_reducible refine And.intro (fun hq => ?_) (fun hq => ?_))
        | (with_reducible intro hq)
        | fail)
      rw [hli]
      exact ⟨by omega, _, _, _, ⟨⟨wrap64 (by omega), rfl⟩, rfl, rfl, rfl, rfl, rfl⟩, hr, ho⟩
  · have hie : i = keep.length := by omega
    subst hie
    obtain ⟨hl1, hl2⟩ := lastIdx_spec hf0 keep.length
    obtain ⟨hp, m, hm, hml, hrep, hfit, hout⟩ := kept_state hkp (i := lastIdx keep nn keep.length) (by omega)
    generalize hkk : kd keep (lastIdx keep nn keep.length) = k at *
    have hgr1 : Gent H1 H1 := .refl _
    have hcut : IM.cutS ve (some k.n) (some (nn : Int)) 3 = some (cutv ve m nn 3) := he.cutS (lo := m) (hi := nn) (by omega) (by omega) (by simpa using hm) (by simp)
    have hsz : ∀ K, Gent H1 K → K.szOk ve 3 = true := fun K hK => ((he.gent hg1).gent hK).szOk
    have hcr : ∀ K, Gent H1 K → Rd K (cutv ve m nn 3) ((es.take nn).drop m) := fun K hK => by simpa [sz, fz] using ((he.gent hg1).gent hK).cut (lo := m) (hi := nn) (by omega) (by omega)
    have hsub := wrap64 (x := (nn : Int) - k.n) (by omega)
    repeat' (first
      | refine W_seq ?_
      | refine W_block ?_
      | (refine W_ret ?_; simp [hlt, hcut, hsz _ (by assumption), hsub])
      | (refine W_skip ?_; simp [hlt, hcut, hsz _ (by assumption), hsub])
      | (refine W_exit ?_; simp [hlt, hcut, hsz _ (by assumption), hsub])
      | (refine V_regc hC ?_; simp [hlt, hcut, hsz _ (by assumption), hsub])
      | (refine V_reg hC ?_; simp [hlt, hcut, hsz _ (by assumption), hsub])
      | (refine (cloneState_ok (s := k.s) hr ho (by have := hfit.regs; omega) (by omega)).mono ?_; rintro _ H2 ⟨hg2, r2, o2, rfl, hw2⟩; simp only [stV]; simp [hlt, hcut, hsz _ (by assumption), hsub])
      | (with_reducible refine And.intro hg2 ?_)
      | (refine (replayed_ok (s := k.s) ((hl.gent hg1).gent hg2) hw2 hg2.1 (hcr H2 hg2) hp hfit hout (by simp; omega)).mono ?_; rintro _ H3 ⟨hg3, r3, o3, rfl, hw3⟩; simp only [stV]; simp [hlt, hcut, hsz _ (by assumption), hsub])
      | (refine w_split rfl (fun hq => ?_) (fun hq => ?_) <;> (try simp at hq) <;> simp [hq, hlt, hcut, hsz _ (by assumption), hsub])
      | (refine V_cond rfl (fun hq => ?_) (fun hq => ?_) <;> (try simp at hq))
      | (with_reducible refine And.intro (fun hq => ?_) (fun hq => ?_))
      | (with_reducible intro hq)
      | fail)
    rw [restore_eq hkp.1 hrep (by omega)] at hw3 ⊢
    exact ⟨(hg1.trans hg2).trans hg3, orZero (replayO l (es.take nn)), _, _, _, ⟨⟨rfl, rfl, rfl, rfl⟩, rfl⟩, hw3.le (by have := hg1.1; omega), .inl ⟨hkp, hn.1, hn.2, by simp, by rw [hkk]⟩⟩

theorem again_ok {l : List Ins} {es : List Event} {keep : List Kept} {n : Int} {vl ve vk : Value} {H : Heap} (hl : Rd H vl l) (he : Rd H ve es) (hk : Rd H vk keep) (hll : l.length < 2 ^ 40) (hes : es.length < 2 ^ 40) (hkl : keep.length < 2 ^ 40) :
    ICall pg 10 [vl, ve, vk, .int .i64 n] H fun res H' => Gent H H' ∧ ∃ s d, res = [.int .i64 d] ∧ RestP l es keep n s d := by
  refine go10 rfl fun C hC => ?_
  repeat' (first
    | refine W_seq ?_
    | refine W_block ?_
    | (refine W_ret ?_; simp)
    | (refine W_skip ?_; simp)
    | (refine W_exit ?_; simp)
    | (refine V_regc hC ?_; simp)
    | (refine V_reg hC ?_; simp)
    | (refine (restore_ok hl he hk hll hes hkl).mono ?_; rintro _ H1 ⟨hg1, s, r, o, d, rfl, hw, hr⟩; simp only [stV]; simp)
    | (refine w_split rfl (fun hq => ?_) (fun hq => ?_) <;> (try simp at hq) <;> simp [hq])
    | (refine V_cond rfl (fun hq => ?_) (fun hq => ?_) <;> (try simp at hq))
    | (with_reducible refine And.intro (fun hq => ?_) (fun hq => ?_))
    | (with_reducible intro hq)
    | fail)
  exact ⟨hg1, s, hr⟩

set_option maxHeartbeats 4000000 in
theorem sRestore_ok {l : List Ins} {es : List Event} {keep : List Kept} {n : Int} {vl ve vk : Value} {H : Heap} (hl : Rd H vl l) (he : Rd H ve es) (hk : Rd H vk keep) (hll : l.length < 2 ^ 40) (hes : es.length < 2 ^ 40) (hkl : keep.length < 2 ^ 40) :
    ICall pg 7 [vl, ve, vk, .int .i64 n] H fun res H' => Gent H H' ∧ ∃ (v : Value) (s : State) (d : Int), res = [v, .int .i64 d] ∧ (cl v).length = 4 ∧ RestP l es keep n s d := by
  refine go7 rfl fun C hC => ?_
  by_cases hn : 0 ≤ n ∧ n ≤ es.length
  case neg =>
    have hin : inB n 0 es.length = false := by simpa [inB] using hn
    repeat' (first
      | refine W_seq ?_
      | refine W_block ?_
      | (refine W_ret ?_; simp [he.lenV, hin])
      | (refine W_skip ?_; simp [he.lenV, hin])
      | (refine W_exit ?_; simp [he.lenV, hin])
      | (refine V_regc hC ?_; simp [he.lenV, hin])
      | (refine V_reg hC ?_; simp [he.lenV, hin])
      | (refine (sKeptOk_ok hl he hk hll hes hkl).mono ?_; rintro _ H1 ⟨hg1, b, rfl, hb⟩; simp [he.lenV, hin])
      | (refine (l1In_ok _ _ _ _).mono ?_; rintro _ _ ⟨rfl, rfl⟩; simp [he.lenV, hin])
      | (refine w_split rfl (fun hq => ?_) (fun hq => ?_) <;> (try simp at hq) <;> simp [hq, he.lenV, hin])
      | (refine V_cond rfl (fun hq => ?_) (fun hq => ?_) <;> (try simp at hq))
      | (with_reducible refine And.intro (fun hq => ?_) (fun hq => ?_))
      | (with_reducible intro hq)
      | fail)
    all_goals exact ⟨hg1, _, .zero, _, ⟨rfl, rfl⟩, rfl, .inr ⟨fun h => hn h.2, rfl, rfl⟩⟩
  have hin : inB n 0 es.length = true := by simpa [inB] using hn
  by_cases hkp : KeptP l es keep
  case neg =>
    have hb' : ∀ b : Bool, (b = true ↔ KeptP l es keep) → b = false := fun b h => by cases b with
      | false => rfl
      | true => exact absurd (h.1 rfl) hkp
    repeat' (first
      | refine W_seq ?_
      | refine W_block ?_
      | (refine W_ret ?_; simp [he.lenV])
      | (refine W_skip ?_; simp [he.lenV])
      | (refine W_exit ?_; simp [he.lenV])
      | (refine V_regc hC ?_; simp [he.lenV])
      | (refine V_reg hC ?_; simp [he.lenV])
      | (refine (sKeptOk_ok hl he hk hll hes hkl).mono ?_; rintro _ H1 ⟨hg1, b, rfl, hb⟩; rw [hb' b hb]; simp [he.lenV])
      | (refine w_split rfl (fun hq => ?_) (fun hq => ?_) <;> (try simp at hq) <;> simp [hq, he.lenV])
      | (refine V_cond rfl (fun hq => ?_) (fun hq => ?_) <;> (try simp at hq))
      | (with_reducible refine And.intro (fun hq => ?_) (fun hq => ?_))
      | (with_reducible intro hq)
      | fail)
    exact ⟨hg1, _, .zero, _, ⟨rfl, rfl⟩, rfl, .inr ⟨fun h => hkp h.1, rfl, rfl⟩⟩
  obtain ⟨nn, rfl⟩ : ∃ nn : Nat, n = nn := ⟨n.toNat, by omega⟩
  have hk0 : 0 < keep.length := by have := hkp.2.1; omega
  have hf0 : (kd keep 0).n ≤ nn := by rw [hkp.2.2.1]; omega
  repeat' (first
    | refine W_seq ?_
    | refine W_block ?_
    | (refine W_ret ?_; simp [he.lenV, hk.lenV, hin])
    | (refine W_skip ?_; simp [he.lenV, hk.lenV, hin])
    | (refine W_exit ?_; simp [he.lenV, hk.lenV, hin])
    | (refine V_regc hC ?_; simp [he.lenV, hk.lenV, hin])
    | (refine V_reg hC ?_; simp [he.lenV, hk.lenV, hin])
    | (refine (sKeptOk_ok hl he hk hll hes hkl).mono ?_; rintro _ H1 ⟨hg1, b, rfl, hb⟩; rw [hb.2 hkp]; simp [he.lenV, hk.lenV, hin])
    | (refine (l1In_ok _ _ _ _).mono ?_; rintro _ _ ⟨rfl, rfl⟩; simp [he.lenV, hk.lenV, hin])
    | (refine w_split rfl (fun hq => ?_) (fun hq => ?_) <;> (try simp at hq) <;> simp [hq, he.lenV, hk.lenV, hin])
    | (refine V_cond rfl (fun hq => ?_) (fun hq => ?_) <;> (try simp at hq))
    | (with_reducible refine And.intro (fun hq => ?_) (fun hq => ?_))
    | (with_reducible intro hq)
    | fail)
  refine W_count keep.length (fun i st => i ≤ keep.length ∧ st = ⟨[some vl, some ve, some vk, some (.int .i64 nn), some (.int .i64 0), some (.int .i64 (lastIdx keep nn i)), some (.int .i64 i), none],
    [[.int .i64 0, .slice none 0 0, .slice none 0 0, .int .i64 0], []], H1⟩)
    ⟨by omega, by simp [lastIdx]⟩ ?_
  rintro i st ⟨hi, rfl⟩
  by_cases hlt : i < keep.length
  · obtain ⟨r2, o2, hr2, ho2, q2, q3, _⟩ := (hk.gent hg1).keptAt hlt
    have q1 : IM.elemP vk (.int .i64 i) (sz Kept) = some (eP vk i 0 (sz Kept)) := hk.elemP hlt .i64
    have q4 : IM.addP (eP vk i 0 5) 0 = some (eP vk i 0 5) := hk.addP hlt 0 0 5
    simp [sz] at q1
    by_cases hle : (kd keep i).n ≤ nn
    · have hli : lastIdx keep nn (i + 1) = i := by simp [lastIdx, hle]
      repeat' (first
        | refine W_seq ?_
        | refine W_block ?_
        | (refine W_ret ?_; simp [q1, q3, q4, hlt, hle, hk.lenV])
        | (refine W_skip ?_; simp [q1, q3, q4, hlt, hle, hk.lenV])
        | (refine W_exit ?_; simp [q1, q3, q4, hlt, hle, hk.lenV])
        | (refine V_regc hC ?_; simp [q1, q3, q4, hlt, hle, hk.lenV])
        | (refine V_reg hC ?_; simp [q1, q3, q4, hlt, hle, hk.lenV])
        | (refine w_split rfl (fun hq => ?_) (fun hq => ?_) <;> (try simp at hq) <;> simp [hq, q1, q3, q4, hlt, hle, hk.lenV])
        | (refine V_cond rfl (fun hq => ?_) (fun hq => ?_) <;> (try simp at hq))
        | (with_reducible refine And.intro (fun hq => ?_) (fun hq => ?_))
        | (with_reducible intro hq)
        | fail)
      rw [hli]
      exact ⟨by omega, rfl, wrap64 (by omega)⟩
    · have hli : lastIdx keep nn (i + 1) = lastIdx keep nn i := by simp [lastIdx, hle]
      repeat' (first
        | refine W_seq ?_
        | refine W_block ?_
        | (refine W_ret ?_; simp [q1, q3, q4, hlt, hle, hk.lenV])
        | (refine W_skip ?_; simp [q1, q3, q4, hlt, hle, hk.lenV])
        | (refine W_exit ?_; simp [q1, q3, q4, hlt, hle, hk.lenV])
        | (refine V_regc hC ?_; simp [q1, q3, q4, hlt, hle, hk.lenV])
        | (refine V_reg hC ?_; simp [q1, q3, q4, hlt, hle, hk.lenV])
        | (refine w_split rfl (fun hq => ?_) (fun hq => ?_) <;> (try simp at hq) <;> simp [hq, q1, q3, q4, hlt, hle, hk.lenV])
        | (refine V_cond rfl (fun hq => ?_) (fun hq => ?_) <;> (try simp at hq))
        | (with_reducible refine And.intro (fun hq => ?_) (fun hq => ?_))
        | (with_reducible intro hq)
        | fail)
      rw [hli]
      exact ⟨by omega, rfl, wrap64 (by omega)⟩
  · have hie : i = keep.length := by omega
    subst hie
    obtain ⟨hl1, hl2⟩ := lastIdx_spec hf0 keep.length
    obtain ⟨hp, m, hm, hml, hrep, hfit, hout⟩ := kept_state hkp (i := lastIdx keep nn keep.length) (by omega)
    obtain ⟨r, o, hr, ho, q5, q2, q3⟩ := (hk.gent hg1).keptAt (i := lastIdx keep nn keep.length) (by omega)
    have q1 : IM.elemP vk (.int .i64 (lastIdx keep nn keep.length)) (sz Kept) = some (eP vk (lastIdx keep nn keep.length) 0 (sz Kept)) := hk.elemP (by omega) .i64
    have q4 : IM.addP (eP vk (lastIdx keep nn keep.length) 0 5) 0 = some (eP vk (lastIdx keep nn keep.length) 0 5) := hk.addP (by omega) 0 0 5
    have q6 : IM.addP (eP vk (lastIdx keep nn keep.length) 0 5) 1 = some (eP vk (lastIdx keep nn keep.length) 1 5) := hk.addP (by omega) 0 1 5
    have hin2 : ∀ d, d = (nn : Int) - (kd keep (lastIdx keep nn keep.length)).n → RestP l es keep nn (orZero (replayO l (es.take nn))) d := fun d hd => .inl ⟨hkp, hn.1, hn.2, by simp, hd⟩
    generalize hkk : kd keep (lastIdx keep nn keep.length) = k at *
    generalize lastIdx keep nn keep.length = li at *
    have hgr1 : Gent H1 H1 := .refl _
    simp [sz] at q1
    repeat' (first
      | refine W_seq ?_
      | refine W_block ?_
      | (refine W_ret ?_; simp [hlt, hk.lenV, q1, q4, q6, rd_gent q2 (by assumption), rd_gent q3 (by assumption)])
      | (refine W_skip ?_; simp [hlt, hk.lenV, q1, q4, q6, rd_gent q2 (by assumption), rd_gent q3 (by assumption)])
      | (refine W_exit ?_; simp [hlt, hk.lenV, q1, q4, q6, rd_gent q2 (by assumption), rd_gent q3 (by assumption)])
      | (refine V_regc hC ?_; simp [hlt, hk.lenV, q1, q4, q6, rd_gent q2 (by assumption), rd_gent q3 (by assumption)])
      | (refine V_reg hC ?_; simp [hlt, hk.lenV, q1, q4, q6, rd_gent q2 (by assumption), rd_gent q3 (by assumption)])
      | (refine (l2Copy_ok (s := k.s) hr ho (by have := hfit.regs; omega) (by omega)).mono ?_; rintro _ H2 ⟨hg2, r2, o2, rfl, hw2⟩; simp only [stV]; simp [hlt, hk.lenV, q1, q4, q6, rd_gent q2 (by assumption), rd_gent q3 (by assumption)])
      | (refine w_split rfl (fun hq => ?_) (fun hq => ?_) <;> (try simp at hq) <;> simp [hq, hlt, hk.lenV, q1, q4, q6, rd_gent q2 (by assumption), rd_gent q3 (by assumption)])
      | (refine V_cond rfl (fun hq => ?_) (fun hq => ?_) <;> (try simp at hq))
      | (with_reducible refine And.intro (fun hq => ?_) (fun hq => ?_))
      | (with_reducible intro hq)
      | fail)
    have hsub := wrap64 (x := (nn : Int) - k.n) (by omega)
    have hgh := hg1.trans hg2
    refine W_count (nn - m) (fun t st => t ≤ nn - m ∧ ∃ (s1 : State) (r1 o1 : Value) (K : Heap), st = ⟨[some vl, some ve, some vk, some (.int .i64 nn), some (.int .i64 0), some (.int .i64 li), some (.int .i64 keep.length), some (.int .i64 ((m + t : Nat) : Int))],
      [[.int .i64 0, .slice none 0 0, .slice none 0 0, .int .i64 0], [.int .i64 s1.pc, r1, o1, .int .i64 s1.code]], K⟩ ∧ Gent H1 K ∧ Rd K r1 s1.regs ∧ Rd K o1 s1.out ∧ Fit l s1 ∧ s1.out.length ≤ 60)
      ⟨by omega, k.s, r2, o2, H2, by simp [hm], hg2, hw2.fst.rd, hw2.snd.rd, hfit, hout⟩ ?_
    rintro t st ⟨ht, s1, r1, o1, K, rfl, hgK, hr1, ho1, hf1, hb1⟩
    have hgHK := hg1.trans hgK
    have hgrK : Gent K K := .refl _
    by_cases hlt2 : m + t < nn
    · have e1 := (he.gent hgHK).elemP (i := m + t) (by omega) .i64
      have e2 := (he.gent hgHK).all (i := m + t) (by omega)
      have hlt3 : ((m : Int) + t) < nn := by omega
      simp [sz, fz, fl] at e1 e2
      repeat' (first
        | refine W_seq ?_
        | refine W_block ?_
        | (refine W_ret ?_; simp [e1, e2, hlt3])
        | (refine W_skip ?_; simp [e1, e2, hlt3])
        | (refine W_exit ?_; simp [e1, e2, hlt3])
        | (refine V_regc hC ?_; simp [e1, e2, hlt3])
        | (refine V_reg hC ?_; simp [e1, e2, hlt3])
        | (refine (l2Do_ok (s := s1) es[m + t] (hl.gent hgHK) hr1 ho1 hp hf1 hb1).mono ?_; rintro _ H3 ⟨hg3, r3, o3, rfl, hw3⟩; simp only [stV]; simp [e1, e2, hlt3])
        | (refine w_split rfl (fun hq => ?_) (fun hq => ?_) <;> (try simp at hq) <;> simp [hq, e1, e2, hlt3])
        | (refine V_cond rfl (fun hq => ?_) (fun hq => ?_) <;> (try simp at hq))
        | (with_reducible refine And.intro (fun hq => ?_) (fun hq => ?_))
        | (with_reducible intro hq)
        | fail)
      have hd1 : Fit l (doneS l s1 es[m + t]) ∧ (doneS l s1 es[m + t]).out.length ≤ 60 := by
        unfold doneS; split
        · exact ⟨didS_fit hf1 _, didS_out hb1 _⟩
        · exact ⟨hf1, hb1⟩
      refine ⟨by omega, by omega, doneS l s1 es[m + t], _, _, _, ⟨?_, ⟨rfl, rfl, rfl, rfl⟩, rfl⟩, hgK.trans hg3, hw3.fst.rd, hw3.snd.rd, hd1⟩
      rw [wrap64 (by omega)]; omega
    · have hlt3 : ¬ ((m : Int) + t) < nn := by omega
      repeat' (first
        | refine W_seq ?_
        | refine W_block ?_
        | (refine W_ret ?_; simp [hlt3, hk.lenV, q1, q4, q6, rd_gent q2 (by assumption), hsub])
        | (refine W_skip ?_; simp [hlt3, hk.lenV, q1, q4, q6, rd_gent q2 (by assumption), hsub])
        | (refine W_exit ?_; simp [hlt3, hk.lenV, q1, q4, q6, rd_gent q2 (by assumption), hsub])
        | (refine V_regc hC ?_; simp [hlt3, hk.lenV, q1, q4, q6, rd_gent q2 (by assumption), hsub])
        | (refine V_reg hC ?_; simp [hlt3, hk.lenV, q1, q4, q6, rd_gent q2 (by assumption), hsub])
        | (refine w_split rfl (fun hq => ?_) (fun hq => ?_) <;> (try simp at hq) <;> simp [hq, hlt3, hk.lenV, q1, q4, q6, rd_gent q2 (by assumption), hsub])
        | (refine V_cond rfl (fun hq => ?_) (fun hq => ?_) <;> (try simp at hq))
        | (with_reducible refine And.intro (fun hq => ?_) (fun hq => ?_))
        | (with_reducible intro hq)
        | fail)
      exact ⟨hgHK, _, _, _, ⟨rfl, rfl⟩, rfl, hin2 _ rfl⟩

end Go.Proofs.Ytpnbojehfngigaa.IM

/- The reference's drawing: a cursor. -/
namespace Go.Proofs.Ytpnbojehfngigaa.IM
open Go Go.Proofs Enc Flat
set_option linter.unusedVariables false
set_option linter.unusedSimpArgs false

/-- Only the block b may have another content. -/
def Mov (b : Nat) (H H' : Heap) : Prop := H.length ≤ H'.length ∧ ∀ b', b' < H.length → b' ≠ b → H'.get b' = H.get b'

theorem Mov.refl (b : Nat) (H : Heap) : Mov b H H := ⟨Nat.le_refl _, fun _ _ _ => rfl⟩
theorem Mov.trans {b : Nat} {H H1 H2 : Heap} (h : Mov b H H1) (k : Mov b H1 H2) : Mov b H H2 := ⟨Nat.le_trans h.1 k.1, fun b' h1 h2 => by rw [k.2 b' (Nat.lt_of_lt_of_le h1 h.1) h2, h.2 b' h1 h2]⟩
theorem Gent.mov {b : Nat} {H H1 : Heap} (h : Gent H H1) : Mov b H H1 := ⟨h.1, fun b' h1 _ => h.2 b' h1⟩

section
variable {α : Type} [Enc α] {m : Bool} {H H' : Heap} {v : Value} {xs : List α} {F : List Nat} {b b0 : Nat}

def RdX (b : Nat) (H : Heap) (v : Value) (xs : List α) : Prop := ∃ F, Sl false H v xs F ∧ b ∉ F

theorem Sl.mov (h : Sl m H v xs F) (hb : b ∉ F) (hm : Mov b H H') : Sl m H' v xs F := h.frame fun b' hb' => by
  obtain ⟨B, hB⟩ := h.alive b' hb'
  exact hm.2 b' (Heap.get_lt hB) (by rintro rfl; exact hb hb')
theorem RdX.mov (h : RdX b H v xs) (hm : Mov b H H') : RdX b H' v xs := by obtain ⟨F, h, hb⟩ := h; exact ⟨F, h.mov hb hm, hb⟩
theorem RdX.rd (h : RdX b H v xs) : Rd H v xs := by obtain ⟨F, h, hb⟩ := h; exact ⟨F, h⟩
theorem Own.mov (h : Own b0 H v xs) (hb : b < b0) (hm : Mov b H H') : Own b0 H' v xs := by
  obtain ⟨F, h, h1, h2⟩ := h
  exact ⟨F, h.mov (fun hf => by have := h2 b hf; omega) hm, h1, h2⟩
theorem Own.rdx (h : Own b0 H v xs) (hb : b < b0) : RdX b H v xs := by
  obtain ⟨F, h, h1, h2⟩ := h
  exact ⟨F, h.weak, fun hf => by have := h2 b hf; omega⟩
theorem Mov.keep (h : Mov b H H') (hb : b < b0) (hl : b0 ≤ H.length) : ∀ b', b0 ≤ b' → b' < H.length → H'.get b' = H.get b' := fun b' h1 h2 => h.2 b' h2 (by omega)
end

/-- The cursor stands in the block b, over these bytes. -/
structure Cu (b : Nat) (bv : Value) (code : List UInt8) (H : Heap) : Prop where
  cur : ∃ i h : Int, H.get b = some ⟨[bv, .int .i64 i, .int .i64 h], 3, true⟩ ∧ 0 ≤ i ∧ i < 2 ^ 41
  rd : RdX b H bv code
  len : code.length < 2 ^ 40

theorem Cu.lt {b : Nat} {bv : Value} {code : List UInt8} {H : Heap} (h : Cu b bv code H) : b < H.length := by
  obtain ⟨i, k, h1, _⟩ := h.cur
  exact Heap.get_lt h1
theorem Cu.gent {b : Nat} {bv : Value} {code : List UInt8} {H H' : Heap} (h : Cu b bv code H) (hg : Gent H H') : Cu b bv code H' := by
  obtain ⟨i, k, h1, h2⟩ := h.cur
  exact ⟨⟨i, k, hg.get h1, h2⟩, h.rd.mov hg.mov, h.len⟩

/-- The cursor's pointer. -/
abbrev cp (b : Nat) : Value := .pointer (some ⟨b, 0, none⟩)

theorem and255 (x : Int) : 0 ≤ IntKind.i64.wrap (BitVec.ofInt 64 x &&& BitVec.ofInt 64 255).toNat ∧ IntKind.i64.wrap (BitVec.ofInt 64 x &&& BitVec.ofInt 64 255).toNat ≤ 255 := by
  have h : (BitVec.ofInt 64 x &&& BitVec.ofInt 64 255).toNat ≤ 255 := by
    rw [BitVec.toNat_and]
    exact Nat.and_le_right
  rw [wrap64 (by omega)]
  omega

theorem and255' (a : Nat) : 0 ≤ IntKind.i64.wrap ((a &&& 255 % 2 ^ IntKind.i64.bits : Nat) : Int) ∧ IntKind.i64.wrap ((a &&& 255 % 2 ^ IntKind.i64.bits : Nat) : Int) ≤ 255 := by
  have h : (a &&& 255 % 2 ^ IntKind.i64.bits) ≤ 255 := Nat.le_trans Nat.and_le_right (by decide)
  rw [wrap64 (by omega)]
  omega

theorem rd_set {H : Heap} {b : Nat} {cs : List Value} {s : Nat} {rw : Bool} (h : H.get b = some ⟨cs, s, rw⟩) (o n : Nat) (hl : o + n ≤ cs.length) : H.rd (.pointer (some ⟨b, o, none⟩)) n = some ((cs.drop o).take n) := by
  simp only [Heap.rd, h]; rw [if_pos hl]
theorem wr_set {H : Heap} {b : Nat} {cs us : List Value} {s : Nat} (h : H.get b = some ⟨cs, s, true⟩) (o : Nat) (hl : o + us.length ≤ cs.length) : H.wr (.pointer (some ⟨b, o, none⟩)) us = some (H.set b (some ⟨put cs o us, s, true⟩)) := by
  simp only [Heap.wr, h]; rw [if_pos ⟨trivial, hl⟩]

theorem Mov.set {b : Nat} {H : Heap} (x : Option Blk) : Mov b H (H.set b x) := ⟨by simp, fun b' _ hne => Heap.get_set_ne (fun e => hne e.symm)⟩

@[simp] theorem addP_cp (b o k : Nat) : addP (.pointer (some ⟨b, o, none⟩)) k = some (.pointer (some ⟨b, o + k, none⟩)) := rfl

/-- What a draw does. -/
def Drew (b : Nat) (bv : Value) (code : List UInt8) (H H' : Heap) : Prop := Cu b bv code H' ∧ Mov b H H'

set_option maxHeartbeats 1000000 in
theorem l1Byte_ok {b : Nat} {bv : Value} {code : List UInt8} {H : Heap} (h : Cu b bv code H) : ICall pg 47 [cp b] H fun r H' => Drew b bv code H H' ∧ ∃ x : Int, r = [.int .i64 x] ∧ 0 ≤ x ∧ x ≤ 255 := by
  refine go47 rfl fun C hC => ?_
  have hlt := h.lt
  obtain ⟨i, k, h1, h2, h3⟩ := h.cur
  have a0 := rd_set h1 2 1 (by simp)
  obtain ⟨k2, hk2⟩ : ∃ k2, k2 = IntKind.i64.wrap (IntKind.i64.wrap (k * 6364136223846793005) + 1442695040888963407) := ⟨_, rfl⟩
  have a1 := wr_set (us := [.int .i64 k2]) h1 2 (by simp)
  have g1 : Heap.get (H.set b (some ⟨[bv, .int .i64 i, .int .i64 k2], 3, true⟩)) b = some ⟨[bv, .int .i64 i, .int .i64 k2], 3, true⟩ := Heap.get_set_same hlt
  have m1 : Mov b H (H.set b (some ⟨[bv, .int .i64 i, .int .i64 k2], 3, true⟩)) := .set _
  have a2 := rd_set g1 2 1 (by simp)
  have a3 := rd_set g1 1 1 (by simp)
  have a4 := rd_set g1 0 1 (by simp)
  have a5 := wr_set (us := [.int .i64 (i + 1)]) g1 1 (by simp)
  have hr := h.rd.mov m1
  have a6 := hr.rd.lenV
  have aw : i < code.length → IntKind.i64.wrap (i + 1) = i + 1 := fun hh => wrap64 (by have := h.len; omega)
  simp at a0 a1 a2 a3 a4 a5
  by_cases hi : i < code.length
  · have e1 := hr.rd.elemPI (i := i) ⟨h2, hi⟩ .i64
    have e2 := hr.rd.all (i := i.toNat) (by omega)
    have aw' := aw hi
    simp [sz, fz, fl] at e1 e2
    repeat' (first
      | refine W_seq ?_
      | refine W_block ?_
      | (refine W_ret ?_; simp [a0, a1, ← hk2, a2, a3, a4, a5, a6, e1, e2, hi, aw'])
      | (refine W_skip ?_; simp [a0, a1, ← hk2, a2, a3, a4, a5, a6, e1, e2, hi, aw'])
      | (refine W_exit ?_; simp [a0, a1, ← hk2, a2, a3, a4, a5, a6, e1, e2, hi, aw'])
      | (refine V_regc hC ?_; simp [a0, a1, ← hk2, a2, a3, a4, a5, a6, e1, e2, hi, aw'])
      | (refine V_reg hC ?_; simp [a0, a1, ← hk2, a2, a3, a4, a5, a6, e1, e2, hi, aw'])
      | (refine w_split rfl (fun hq => ?_) (fun hq => ?_) <;> (try simp at hq) <;> simp [hq, a0, a1, ← hk2, a2, a3, a4, a5, a6, e1, e2, hi, aw'])
      | (refine V_cond rfl (fun hq => ?_) (fun hq => ?_) <;> (try simp at hq))
      | (with_reducible refine And.intro (fun hq => ?_) (fun hq => ?_))
      | (with_reducible intro hq)
      | fail)
    refine ⟨⟨⟨⟨i + 1, k2, Heap.get_set_same hlt, by omega, by have := h.len; omega⟩, h.rd.mov (.set _), h.len⟩, .set _⟩, and255' _⟩
  · repeat' (first
      | refine W_seq ?_
      | refine W_block ?_
      | (refine W_ret ?_; simp [a0, a1, ← hk2, a2, a3, a4, a6, hi])
      | (refine W_skip ?_; simp [a0, a1, ← hk2, a2, a3, a4, a6, hi])
      | (refine W_exit ?_; simp [a0, a1, ← hk2, a2, a3, a4, a6, hi])
      | (refine V_regc hC ?_; simp [a0, a1, ← hk2, a2, a3, a4, a6, hi])
      | (refine V_reg hC ?_; simp [a0, a1, ← hk2, a2, a3, a4, a6, hi])
      | (refine w_split rfl (fun hq => ?_) (fun hq => ?_) <;> (try simp at hq) <;> simp [hq, a0, a1, ← hk2, a2, a3, a4, a6, hi])
      | (refine V_cond rfl (fun hq => ?_) (fun hq => ?_) <;> (try simp at hq))
      | (with_reducible refine And.intro (fun hq => ?_) (fun hq => ?_))
      | (with_reducible intro hq)
      | fail)
    exact ⟨⟨⟨⟨i, k2, g1, h2, h3⟩, hr, h.len⟩, m1⟩, and255' _⟩

theorem l1Below_ok {b : Nat} {bv : Value} {code : List UInt8} {H : Heap} (h : Cu b bv code H) (n : Int) (hn : n < 2 ^ 60) : ICall pg 29 [cp b, .int .i64 n] H fun r H' => Drew b bv code H H' ∧ ∃ x : Int, r = [.int .i64 x] ∧ 0 ≤ x ∧ (0 < n → x < n) := by
  refine go29 rfl fun C hC => ?_
  by_cases h0 : n ≤ 0
  · repeat' (first
      | refine W_seq ?_
      | refine W_block ?_
      | (refine W_ret ?_; simp [h0])
      | (refine W_skip ?_; simp [h0])
      | (refine W_exit ?_; simp [h0])
      | (refine V_regc hC ?_; simp [h0])
      | (refine V_reg hC ?_; simp [h0])
      | (refine w_split rfl (fun hq => ?_) (fun hq => ?_) <;> (try simp at hq) <;> simp [hq, h0])
      | (refine V_cond rfl (fun hq => ?_) (fun hq => ?_) <;> (try simp at hq))
      | (with_reducible refine And.intro (fun hq => ?_) (fun hq => ?_))
      | (with_reducible intro hq)
      | fail)
    exact ⟨h, .refl _ _⟩
  have hn0 : n ≠ 0 := by omega
  by_cases h1 : n ≤ 256
  · repeat' (first
      | refine W_seq ?_
      | refine W_block ?_
      | (refine W_ret ?_; simp [h0, h1, hn0])
      | (refine W_skip ?_; simp [h0, h1, hn0])
      | (refine W_exit ?_; simp [h0, h1, hn0])
      | (refine V_regc hC ?_; simp [h0, h1, hn0])
      | (refine V_reg hC ?_; simp [h0, h1, hn0])
      | (refine (l1Byte_ok h).mono ?_; rintro _ H1 ⟨⟨h1, m1⟩, x, rfl, hx1, hx2⟩; simp [h0, h1, hn0])
      | (refine w_split rfl (fun hq => ?_) (fun hq => ?_) <;> (try simp at hq) <;> simp [hq, h0, h1, hn0])
      | (refine V_cond rfl (fun hq => ?_) (fun hq => ?_) <;> (try simp at hq))
      | (with_reducible refine And.intro (fun hq => ?_) (fun hq => ?_))
      | (with_reducible intro hq)
      | fail)
    exact ⟨⟨h1, m1⟩, Int.tmod_nonneg _ hx1, fun hh => Int.tmod_lt_of_pos _ hh⟩
  · repeat' (first
      | refine W_seq ?_
      | refine W_block ?_
      | (refine W_ret ?_; simp [h0, h1, hn0])
      | (refine W_skip ?_; simp [h0, h1, hn0])
      | (refine W_exit ?_; simp [h0, h1, hn0])
      | (refine V_regc hC ?_; simp [h0, h1, hn0])
      | (refine V_reg hC ?_; simp [h0, h1, hn0])
      | (refine (l1Byte_ok h).mono ?_; rintro _ H1 ⟨⟨h1, m1⟩, x, rfl, hx1, hx2⟩; simp [h0, h1, hn0])
      | (refine (l1Byte_ok h1).mono ?_; rintro _ H2 ⟨⟨h2, m2⟩, y, rfl, hy1, hy2⟩; simp [h0, h1, hn0])
      | (refine (l1Byte_ok h2).mono ?_; rintro _ H3 ⟨⟨h3, m3⟩, z, rfl, hz1, hz2⟩; simp [h0, h1, hn0])
      | (refine (l1Byte_ok h3).mono ?_; rintro _ H4 ⟨⟨h4, m4⟩, w, rfl, hw1, hw2⟩; simp [h0, h1, hn0])
      | (refine w_split rfl (fun hq => ?_) (fun hq => ?_) <;> (try simp at hq) <;> simp [hq, h0, h1, hn0])
      | (refine V_cond rfl (fun hq => ?_) (fun hq => ?_) <;> (try simp at hq))
      | (with_reducible refine And.intro (fun hq => ?_) (fun hq => ?_))
      | (with_reducible intro hq)
      | fail)
    have e1 := wrap64 (x := x * 16777216) (by omega)
    have e2 := wrap64 (x := y * 65536) (by omega)
    have e3 := wrap64 (x := z * 256) (by omega)
    have e4 := wrap64 (x := x * 16777216 + y * 65536) (by omega)
    have e5 := wrap64 (x := x * 16777216 + y * 65536 + z * 256) (by omega)
    have e6 := wrap64 (x := x * 16777216 + y * 65536 + z * 256 + w) (by omega)
    rw [e1, e2, e3, e4, e5, e6]
    exact ⟨⟨h4, ((m1.trans m2).trans m3).trans m4⟩, Int.tmod_nonneg _ (by omega), fun hh => Int.tmod_lt_of_pos _ hh⟩

theorem l1Once_ok {b : Nat} {bv : Value} {code : List UInt8} {H : Heap} (h : Cu b bv code H) (n : Int) (hn : n < 2 ^ 60) : ICall pg 59 [cp b, .int .i64 n] H fun r H' => Drew b bv code H H' ∧ ∃ x : Bool, r = [.bool x] := by
  refine go59 rfl fun C hC => ?_
  repeat' (first
    | refine W_seq ?_
    | refine W_block ?_
    | (refine W_ret ?_; simp)
    | (refine W_skip ?_; simp)
    | (refine W_exit ?_; simp)
    | (refine V_regc hC ?_; simp)
    | (refine V_reg hC ?_; simp)
    | (refine (l1Below_ok h n hn).mono ?_; rintro _ H1 ⟨⟨h1, m1⟩, x, rfl, hx1, hx2⟩; simp)
    | (refine w_split rfl (fun hq => ?_) (fun hq => ?_) <;> (try simp at hq) <;> simp [hq])
    | (refine V_cond rfl (fun hq => ?_) (fun hq => ?_) <;> (try simp at hq))
    | (with_reducible refine And.intro (fun hq => ?_) (fun hq => ?_))
    | (with_reducible intro hq)
    | fail)
  all_goals first | exact ⟨h1, m1⟩ | exact ⟨⟨h1, m1⟩, by omega⟩

theorem l1PickInt_ok {b : Nat} {bv v : Value} {code : List UInt8} {xs : List Int} {H : Heap} (h : Cu b bv code H) (hv : RdX b H v xs) (hl : 0 < xs.length ∧ xs.length < 2 ^ 40) : ICall pg 65 [cp b, v] H fun r H' => Drew b bv code H H' ∧ ∃ x : Int, r = [.int .i64 x] := by
  refine go65 rfl fun C hC => ?_
  have hlv := hv.rd.lenV
  repeat' (first
    | refine W_seq ?_
    | refine W_block ?_
    | (refine W_ret ?_; simp [hlv])
    | (refine W_skip ?_; simp [hlv])
    | (refine W_exit ?_; simp [hlv])
    | (refine V_regc hC ?_; simp [hlv])
    | (refine V_reg hC ?_; simp [hlv])
    | (refine (l1Below_ok h _ (by omega)).mono ?_; rintro _ H1 ⟨⟨h1, m1⟩, x, rfl, hx1, hx2⟩; simp [hlv])
    | (refine w_split rfl (fun hq => ?_) (fun hq => ?_) <;> (try simp at hq) <;> simp [hq, hlv])
    | (refine V_cond rfl (fun hq => ?_) (fun hq => ?_) <;> (try simp at hq))
    | (with_reducible refine And.intro (fun hq => ?_) (fun hq => ?_))
    | (with_reducible intro hq)
    | fail)
  have hx : 0 ≤ x ∧ x < xs.length := ⟨hx1, hx2 (by omega)⟩
  have e1 := hv.rd.elemPI hx .i64
  have e2 := (hv.mov m1).rd.atInt hx
  simp [sz, fz] at e1
  all_goals (
    (try simp [e1, e2])
    repeat' (first
      | refine W_seq ?_
      | refine W_block ?_
      | (refine W_ret ?_; simp [e1, e2])
      | (refine W_skip ?_; simp [e1, e2])
      | (refine W_exit ?_; simp [e1, e2])
      | (refine V_regc hC ?_; simp [e1, e2])
      | (refine V_reg hC ?_; simp [e1, e2])
      | (refine w_split rfl (fun hq => ?_) (fun hq => ?_) <;> (try simp at hq) <;> simp [hq, e1, e2])
      | (refine V_cond rfl (fun hq => ?_) (fun hq => ?_) <;> (try simp at hq))
      | (with_reducible refine And.intro (fun hq => ?_) (fun hq => ?_))
      | (with_reducible intro hq)
      | fail))
  exact ⟨h1, m1⟩

theorem l1New_ok {bv : Value} {code : List UInt8} {H : Heap} (h : Rd H bv code) (hl : code.length < 2 ^ 40) : ICall pg 27 [bv] H fun r H' => Gent H H' ∧ H.length < H'.length ∧ ∃ b, r = [cp b] ∧ H.length ≤ b ∧ Cu b bv code H' := by
  refine go27 rfl fun C hC => ?_
  repeat' (first
    | refine W_seq ?_
    | refine W_block ?_
    | (refine W_ret ?_; simp [h.lenV])
    | (refine W_skip ?_; simp [h.lenV])
    | (refine W_exit ?_; simp [h.lenV])
    | (refine V_regc hC ?_; simp [h.lenV])
    | (refine V_reg hC ?_; simp [h.lenV])
    | (refine w_split rfl (fun hq => ?_) (fun hq => ?_) <;> (try simp at hq) <;> simp [hq, h.lenV])
    | (refine V_cond rfl (fun hq => ?_) (fun hq => ?_) <;> (try simp at hq))
    | (with_reducible refine And.intro (fun hq => ?_) (fun hq => ?_))
    | (with_reducible intro hq)
    | fail)
  refine W_count code.length (fun i st => i ≤ code.length ∧ ∃ k : Int, st = ⟨[some bv, some (.pointer none), some (.int .i64 k), some (.int .i64 i)], [], H⟩) ⟨by omega, _, by simp; rfl⟩ ?_
  rintro i st ⟨hi, k, rfl⟩
  have fin : ∀ k : Int, Gent H (H.add ⟨[bv, .int .i64 0, .int .i64 k], 3, true⟩) ∧ Cu H.length bv code (H.add ⟨[bv, .int .i64 0, .int .i64 k], 3, true⟩) := fun k => by
    refine ⟨gent_add' _ _, ⟨0, k, get_add _ _, by omega, by omega⟩, ?_, hl⟩
    obtain ⟨F, hF⟩ := h
    exact ⟨F, hF.gent (gent_add' _ _), fun hm => by obtain ⟨B, hB⟩ := hF.alive _ hm; have := Heap.get_lt hB; omega⟩
  have hcl := h.cl
  by_cases hlt : i < code.length
  · by_cases h4 : (i : Int) < 4000
    · have e1 := h.elemP hlt .i64
      have e2 := h.all hlt
      simp [sz, fz, fl] at e1 e2
      repeat' (first
        | refine W_seq ?_
        | refine W_block ?_
        | (refine W_ret ?_; simp [h.lenV, e1, e2, hlt, h4])
        | (refine W_skip ?_; simp [h.lenV, e1, e2, hlt, h4])
        | (refine W_exit ?_; simp [h.lenV, e1, e2, hlt, h4])
        | (refine V_regc hC ?_; simp [h.lenV, e1, e2, hlt, h4])
        | (refine V_reg hC ?_; simp [h.lenV, e1, e2, hlt, h4])
        | (refine w_split rfl (fun hq => ?_) (fun hq => ?_) <;> (try simp at hq) <;> simp [hq, h.lenV, e1, e2, hlt, h4])
        | (refine V_cond rfl (fun hq => ?_) (fun hq => ?_) <;> (try simp at hq))
        | (with_reducible refine And.intro (fun hq => ?_) (fun hq => ?_))
        | (with_reducible intro hq)
        | fail)
      exact ⟨by omega, wrap64 (by omega)⟩
    · repeat' (first
        | refine W_seq ?_
        | refine W_block ?_
        | (refine W_ret ?_; simp [h.lenV, hlt, h4, hcl])
        | (refine W_skip ?_; simp [h.lenV, hlt, h4, hcl])
        | (refine W_exit ?_; simp [h.lenV, hlt, h4, hcl])
        | (refine V_regc hC ?_; simp [h.lenV, hlt, h4, hcl])
        | (refine V_reg hC ?_; simp [h.lenV, hlt, h4, hcl])
        | (refine w_split rfl (fun hq => ?_) (fun hq => ?_) <;> (try simp at hq) <;> simp [hq, h.lenV, hlt, h4, hcl])
        | (refine V_cond rfl (fun hq => ?_) (fun hq => ?_) <;> (try simp at hq))
        | (with_reducible refine And.intro (fun hq => ?_) (fun hq => ?_))
        | (with_reducible intro hq)
        | fail)
      exact (fin k).2
  · repeat' (first
      | refine W_seq ?_
      | refine W_block ?_
      | (refine W_ret ?_; simp [h.lenV, hlt, hcl])
      | (refine W_skip ?_; simp [h.lenV, hlt, hcl])
      | (refine W_exit ?_; simp [h.lenV, hlt, hcl])
      | (refine V_regc hC ?_; simp [h.lenV, hlt, hcl])
      | (refine V_reg hC ?_; simp [h.lenV, hlt, hcl])
      | (refine w_split rfl (fun hq => ?_) (fun hq => ?_) <;> (try simp at hq) <;> simp [hq, h.lenV, hlt, hcl])
      | (refine V_cond rfl (fun hq => ?_) (fun hq => ?_) <;> (try simp at hq))
      | (with_reducible refine And.intro (fun hq => ?_) (fun hq => ?_))
      | (with_reducible intro hq)
      | fail)
    exact (fin k).2

set_option maxHeartbeats 4000000 in
theorem l1DrawIns_ok {b : Nat} {bv : Value} {code : List UInt8} {H : Heap} (h : Cu b bv code H) (pl pr : Int) (h1 : pl < 2 ^ 60) (h2 : pr < 2 ^ 60) : ICall pg 64 [cp b, .int .i64 pl, .int .i64 pr] H fun res H' => Drew b bv code H H' ∧ ∃ op r a b' n : Int, res = [.agg #[.int .i64 op, .int .i64 r, .int .i64 a, .int .i64 b', .int .i64 n]] := by
  refine go64 rfl fun C hC => ?_
  repeat' (first
    | refine W_seq ?_
    | refine W_block ?_
    | (refine W_ret ?_; simp)
    | (refine W_skip ?_; simp)
    | (refine W_exit ?_; simp)
    | (refine V_regc hC ?_; simp)
    | (refine V_reg hC ?_; simp)
    | (refine (l1Below_ok (by assumption) _ (by omega)).mono ?_; rintro _ _ ⟨⟨_, _⟩, x, rfl, _, _⟩; simp)
    | (refine (l1Once_ok (by assumption) _ (by omega)).mono ?_; rintro _ _ ⟨⟨_, _⟩, x, rfl⟩; simp)
    | (refine w_split rfl (fun hq => ?_) (fun hq => ?_) <;> (try simp at hq) <;> simp [hq])
    | (refine V_cond rfl (fun hq => ?_) (fun hq => ?_) <;> (try simp at hq))
    | (with_reducible refine And.intro (fun hq => ?_) (fun hq => ?_))
    | (with_reducible intro hq)
    | fail)
  all_goals exact ⟨by assumption, by (repeat' (first | assumption | exact Mov.refl _ _ | (refine Mov.trans (by assumption) ?_)))⟩

theorem pickLit {b : Nat} {bv : Value} {code : List UInt8} {H : Heap} (h : Cu b bv code H) (xs : List Int) {cells : List Value} {n : Nat} (hl : 0 < xs.length ∧ xs.length < 2 ^ 40) (hc : cells = xs.flatMap fl) (hn : n = xs.length) :
    ICall pg 65 [cp b, .slice (some ⟨H.length, 0, none⟩) n n] (H.add ⟨cells, 1, true⟩) fun r H' => Drew b bv code H H' ∧ ∃ x : Int, r = [.int .i64 x] := by
  subst hc; subst hn
  refine (l1PickInt_ok (h.gent (gent_add' _ _)) (Own.rdx (Own.laid (Nat.le_refl _) xs) h.lt) hl).mono ?_
  rintro _ H1 ⟨⟨h1, m1⟩, x, rfl⟩
  exact ⟨⟨h1, (gent_add' _ _).mov.trans m1⟩, x, rfl⟩

end Go.Proofs.Ytpnbojehfngigaa.IM

/- The reference's drawn programs. -/
namespace Go.Proofs.Ytpnbojehfngigaa.IM
open Go Go.Proofs Enc Flat
set_option linter.unusedVariables false
set_option linter.unusedSimpArgs false

set_option maxHeartbeats 4000000 in
theorem l1Spoil_ok {b : Nat} {bv : Value} {code : List UInt8} {H : Heap} (h : Cu b bv code H) (op r a b1 n : Int) : ICall pg 60 [cp b, .agg #[.int .i64 op, .int .i64 r, .int .i64 a, .int .i64 b1, .int .i64 n]] H fun res H' => Drew b bv code H H' ∧ ∃ op r a b' n : Int, res = [.agg #[.int .i64 op, .int .i64 r, .int .i64 a, .int .i64 b', .int .i64 n]] := by
  refine go60 rfl fun C hC => ?_
  repeat' (first
    | refine W_seq ?_
    | refine W_block ?_
    | (refine W_ret ?_; simp)
    | (refine W_skip ?_; simp)
    | (refine W_exit ?_; simp)
    | (refine V_regc hC ?_; simp)
    | (refine V_reg hC ?_; simp)
    | (refine (l1Below_ok (by assumption) _ (by omega)).mono ?_; rintro _ _ ⟨⟨_, _⟩, x, rfl, _, _⟩; simp)
    | (refine (pickLit (by assumption) [-1, 0, 3, 4, 9, 29, 30, 1000000000, 1000000001] (by simp) (by simp [Flat.fl]) rfl).mono ?_; rintro _ _ ⟨⟨_, _⟩, x, rfl⟩; simp)
    | (refine w_split rfl (fun hq => ?_) (fun hq => ?_) <;> (try simp at hq) <;> simp [hq])
    | (refine V_cond rfl (fun hq => ?_) (fun hq => ?_) <;> (try simp at hq))
    | (with_reducible refine And.intro (fun hq => ?_) (fun hq => ?_))
    | (with_reducible intro hq)
    | fail)
  all_goals exact ⟨by assumption, by (repeat' (first | assumption | exact Mov.refl _ _ | (refine Mov.trans (by assumption) ?_)))⟩

theorem Drew.keep {b : Nat} {bv : Value} {code : List UInt8} {H0 H1 H2 : Heap} (h0 : Cu b bv code H0) (h1 : Drew b bv code H0 H1) (k : Keep H0.length H1 H2) : Drew b bv code H0 H2 := by
  have hb := h0.lt
  have hm : Mov b H0 H2 := ⟨Nat.le_trans h1.2.1 k.1, fun b' g1 g2 => by rw [k.2 b' g1, h1.2.2 b' g1 g2]⟩
  obtain ⟨⟨i, c, e1, e2⟩, _, hl⟩ := h1.1
  exact ⟨⟨⟨i, c, by rw [k.2 b hb]; exact e1, e2⟩, h0.rd.mov hm, hl⟩, hm⟩

theorem Drew.trans {b : Nat} {bv : Value} {code : List UInt8} {H0 H1 H2 : Heap} (h0 : Drew b bv code H0 H1) (h1 : Drew b bv code H1 H2) : Drew b bv code H0 H2 := ⟨h1.1, h0.2.trans h1.2⟩
theorem Drew.refl {b : Nat} {bv : Value} {code : List UInt8} {H0 : Heap} (h0 : Cu b bv code H0) : Drew b bv code H0 H0 := ⟨h0, .refl _ _⟩

section
variable {α : Type} [Flat α] {H H' : Heap} {v : Value} {xs : List α} {b0 : Nat}

theorem app1 (h : Own b0 H v xs) (hb : b0 ≤ H.length) (y : α) {bytes : Nat} (hy : 0 < bytes ∧ bytes ≤ 256) (hl : xs.length + 1 ≤ 2 ^ 38) :
    (H.add ⟨fl y, fz α, true⟩).cellsOf (.slice (some ⟨H.length, 0, none⟩) 1 1) (fz α) = some (fl y) ∧
    ∃ v' H', (H.add ⟨fl y, fz α, true⟩).app v (fz α) bytes 1 (fl y) = some (v', H') ∧ Own b0 H' v' (xs ++ [y]) ∧ Keep b0 H H' := by
  have h1 := (Own.laid (Nat.le_refl H.length) [y]).rd.cellsOf
  obtain ⟨v', H', e1, e2, e3⟩ := (h.gent (gent_add' H ⟨fl y, fz α, true⟩)).app (by simp; omega) [y] hy (by simpa using hl)
  simp [sz] at h1 e1
  exact ⟨h1, v', H', e1, e2, ((gent_add' H _).keep hb).trans e3⟩
end

def insOf : List Value → List Ins
  | .int _ a :: .int _ b :: .int _ c :: .int _ d :: .int _ e :: t => ⟨a, b, c, d, e⟩ :: insOf t
  | _ => []

theorem laidIns {H : Heap} {cells : List Value} {n : Nat} (hc : cells = (insOf cells).flatMap fl) (hn : n = (insOf cells).length) : ∃ xs : List Ins, Own H.length (H.add ⟨cells, 5, true⟩) (.slice (some ⟨H.length, 0, none⟩) n n) xs ∧ xs.length = n := by
  refine ⟨insOf cells, ?_, hn.symm⟩
  have := Own.laid (Nat.le_refl H.length) (insOf cells)
  rw [← hc, ← hn] at this
  exact this

theorem drewLaid {b : Nat} {bv : Value} {code : List UInt8} {H H1 : Heap} {cells : List Value} {n : Nat} (h : Drew b bv code H H1) (hc : cells = (insOf cells).flatMap fl) (hn : n = (insOf cells).length) (h3 : 0 < n ∧ n ≤ 20) :
    Drew b bv code H (H1.add ⟨cells, 5, true⟩) ∧ ∃ x : List Ins, Own H.length (H1.add ⟨cells, 5, true⟩) (.slice (some ⟨H1.length, 0, none⟩) n n) x ∧ 0 < x.length ∧ x.length ≤ 20 := by
  obtain ⟨xs, k1, k2⟩ := laidIns (H := H1) hc hn
  exact ⟨h.trans ⟨h.1.gent (gent_add' _ _), (gent_add' _ _).mov⟩, xs, k1.le h.2.1, by omega⟩

set_option maxHeartbeats 4000000 in
theorem l1DrawProg_ok {b : Nat} {bv : Value} {code : List UInt8} {H : Heap} (h : Cu b bv code H) (pr me : Int) (h1 : 0 < pr ∧ pr < 2 ^ 60) (h2 : 0 ≤ me ∧ me < 2 ^ 60) : ICall pg 58 [cp b, .int .i64 pr, .int .i64 me] H fun res H' => Drew b bv code H H' ∧ ∃ v, res = [v] ∧ ∃ xs : List Ins, Own H.length H' v xs ∧ 0 < xs.length ∧ xs.length ≤ 20 := by
  refine go58 rfl fun C hC => ?_
  have hpr : pr ≠ 0 := by omega
  have aw : IntKind.i64.wrap (me + 1) = me + 1 := wrap64 (by omega)
  repeat' (first
    | refine W_seq ?_
    | refine W_block ?_
    | (refine W_ret ?_; simp [hpr, aw])
    | (refine W_skip ?_; simp [hpr, aw])
    | (refine W_exit ?_; simp [hpr, aw])
    | (refine V_regc hC ?_; simp [hpr, aw])
    | (refine V_reg hC ?_; simp [hpr, aw])
    | (refine (l1Below_ok (by assumption) _ (by omega)).mono ?_; rintro _ _ ⟨⟨_, _⟩, x, rfl, _, _⟩; simp [hpr, aw])
    | (refine w_split rfl (fun hq => ?_) (fun hq => ?_) <;> (try simp at hq) <;> simp [hq, hpr, aw])
    | (refine V_cond rfl (fun hq => ?_) (fun hq => ?_) <;> (try simp at hq))
    | (with_reducible refine And.intro (fun hq => ?_) (fun hq => ?_))
    | (with_reducible intro hq)
    | fail)
  all_goals first | exact drewLaid ⟨by assumption, by (repeat' (first | assumption | exact Mov.refl _ _ | (refine Mov.trans (by assumption) ?_)))⟩ rfl rfl (by decide) | skip
  rename_i H0 _ _ x0 _ _ _ _ H1 c1 _ hx1 hx2
  have d1 : Drew b bv code H H1 := ⟨by assumption, by (repeat' (first | assumption | exact Mov.refl _ _ | (refine Mov.trans (by assumption) ?_)))⟩
  obtain ⟨n, hn⟩ : ∃ n : Nat, 3 + x = n := ⟨(3 + x).toNat, by omega⟩
  have aw2 : IntKind.i64.wrap (3 + x) = n := by rw [hn]; exact wrap64 (by omega)
  have aw3 : IntKind.i64.wrap ((n : Int) + 1) = n + 1 := wrap64 (by omega)
  rw [aw2]
  refine W_count n (fun i st => i ≤ n ∧ ∃ (v : Value) (xs : List Ins) (K : Heap), st = ⟨[some (cp b), some (.int .i64 pr), some (.int .i64 me), some (.slice none 0 0), some (.int .i64 ((me + 1).tmod pr)), some (.int .i64 n), some v, some (.int .i64 i), some (.int .i64 x0)], [], K⟩ ∧ Drew b bv code H K ∧ Own H.length K v xs ∧ xs.length = i)
    ⟨by omega, _, [], _, rfl, d1.trans ⟨d1.1.gent (gent_add' _ _), (gent_add' _ _).mov⟩, (Own.laid (Nat.le_refl _) []).le d1.2.1, rfl⟩ ?_
  rintro i st ⟨hi, v, xs, K, rfl, hd, ho, hxl⟩
  by_cases hlt : i < n
  · repeat' (first
      | refine W_seq ?_
      | refine W_block ?_
      | (refine W_ret ?_; simp [hlt, aw3])
      | (refine W_skip ?_; simp [hlt, aw3])
      | (refine W_exit ?_; simp [hlt, aw3])
      | (refine V_regc hC ?_; simp [hlt, aw3])
      | (refine V_reg hC ?_; simp [hlt, aw3])
      | (refine (l1DrawIns_ok hd.1 _ _ (by omega) h1.2).mono ?_; rintro _ K1 ⟨d2, op, r, a, b', n', rfl⟩)
      | (refine w_split rfl (fun hq => ?_) (fun hq => ?_) <;> (try simp at hq) <;> simp [hq, hlt, aw3])
      | (refine V_cond rfl (fun hq => ?_) (fun hq => ?_) <;> (try simp at hq))
      | (with_reducible refine And.intro (fun hq => ?_) (fun hq => ?_))
      | (with_reducible intro hq)
      | fail)
    have d3 := hd.trans d2
    have ho2 := ho.mov h.lt d2.2
    obtain ⟨a1, v', K2, a2, a3, a4⟩ := app1 ho2 d3.2.1 (⟨op, r, a, b', n'⟩ : Ins) (bytes := 40) (by omega) (by omega)
    have a5 := a3.rd.cl
    simp [fz, fl] at a1 a2
    all_goals (
      (try simp [a1, a2, a5])
      repeat' (first
        | refine W_seq ?_
        | refine W_block ?_
        | (refine W_ret ?_; simp [a1, a2, a5])
        | (refine W_skip ?_; simp [a1, a2, a5])
        | (refine W_exit ?_; simp [a1, a2, a5])
        | (refine V_regc hC ?_; simp [a1, a2, a5])
        | (refine V_reg hC ?_; simp [a1, a2, a5])
        | (refine w_split rfl (fun hq => ?_) (fun hq => ?_) <;> (try simp at hq) <;> simp [hq, a1, a2, a5])
        | (refine V_cond rfl (fun hq => ?_) (fun hq => ?_) <;> (try simp at hq))
        | (with_reducible refine And.intro (fun hq => ?_) (fun hq => ?_))
        | (with_reducible intro hq)
        | fail))
    exact ⟨by omega, _, _, _, ⟨⟨rfl, wrap64 (by omega)⟩, rfl⟩, d3.keep h a4, a3, by simp [hxl]⟩
  · repeat' (first
      | refine W_seq ?_
      | refine W_block ?_
      | (refine W_ret ?_; simp [hlt])
      | (refine W_skip ?_; simp [hlt])
      | (refine W_exit ?_; simp [hlt])
      | (refine V_regc hC ?_; simp [hlt])
      | (refine V_reg hC ?_; simp [hlt])
      | (refine (pickLit hd.1 [11, 9] (by simp) (by simp [Flat.fl]) rfl).mono ?_; rintro _ K1 ⟨d2, y, rfl⟩)
      | (refine w_split rfl (fun hq => ?_) (fun hq => ?_) <;> (try simp at hq) <;> simp [hq, hlt])
      | (refine V_cond rfl (fun hq => ?_) (fun hq => ?_) <;> (try simp at hq))
      | (with_reducible refine And.intro (fun hq => ?_) (fun hq => ?_))
      | (with_reducible intro hq)
      | fail)
    have d3 := hd.trans d2
    have ho2 := ho.mov h.lt d2.2
    obtain ⟨a1, v', K2, a2, a3, a4⟩ := app1 ho2 d3.2.1 (⟨y, 0, 0, 0, 0⟩ : Ins) (bytes := 40) (by omega) (by omega)
    have a5 := a3.rd.cl
    simp [fz, fl] at a1 a2
    all_goals (
      (try simp [a1, a2, a5])
      repeat' (first
        | refine W_seq ?_
        | refine W_block ?_
        | (refine W_ret ?_; simp [a1, a2, a5])
        | (refine W_skip ?_; simp [a1, a2, a5])
        | (refine W_exit ?_; simp [a1, a2, a5])
        | (refine V_regc hC ?_; simp [a1, a2, a5])
        | (refine V_reg hC ?_; simp [a1, a2, a5])
        | (refine w_split rfl (fun hq => ?_) (fun hq => ?_) <;> (try simp at hq) <;> simp [hq, a1, a2, a5])
        | (refine V_cond rfl (fun hq => ?_) (fun hq => ?_) <;> (try simp at hq))
        | (with_reducible refine And.intro (fun hq => ?_) (fun hq => ?_))
        | (with_reducible intro hq)
        | fail))
    exact ⟨d3.keep h a4, _, a3, by simp, by simp; omega⟩

set_option maxHeartbeats 4000000 in
theorem l1DrawAny_ok {b : Nat} {bv : Value} {code : List UInt8} {H : Heap} (h : Cu b bv code H) : ICall pg 45 [cp b] H fun res H' => Drew b bv code H H' ∧ ∃ v, res = [v] ∧ ∃ xs : List Ins, Own H.length H' v xs ∧ 0 < xs.length ∧ xs.length ≤ 40 := by
  refine go45 rfl fun C hC => ?_
  have tail : ∀ (H3 : Heap) (v : Value) (xs : List Ins) (a : Option Value), Drew b bv code H H3 → Own H.length H3 v xs → 0 < xs.length → xs.length ≤ 20 →
      W pg C c45_16 ⟨[some (cp b), some (.slice none 0 0), some v, a], [], H3⟩ (Fin [.v 1 2] fun res H' => Drew b bv code H H' ∧ ∃ v, res = [v] ∧ ∃ xs : List Ins, Own H.length H' v xs ∧ 0 < xs.length ∧ xs.length ≤ 40) := by
    intro H3 v xs a d3 ho hl1 hl2
    have hcl := ho.rd.cl
    repeat' (first
      | refine W_seq ?_
      | refine W_block ?_
      | (refine W_ret ?_; simp [hcl])
      | (refine W_skip ?_; simp [hcl])
      | (refine W_exit ?_; simp [hcl])
      | (refine V_regc hC ?_; simp [hcl])
      | (refine V_reg hC ?_; simp [hcl])
      | (refine (l1Once_ok d3.1 _ (by omega)).mono ?_; rintro _ H4 ⟨d4, y, rfl⟩; simp [hcl])
      | (refine w_split rfl (fun hq => ?_) (fun hq => ?_) <;> (try simp at hq) <;> simp [hq, hcl])
      | (refine V_cond rfl (fun hq => ?_) (fun hq => ?_) <;> (try simp at hq))
      | (with_reducible refine And.intro (fun hq => ?_) (fun hq => ?_))
      | (with_reducible intro hq)
      | fail)
    · refine W_count 40 (fun i st => ∃ (v : Value) (xs : List Ins) (K : Heap), st = ⟨[some (cp b), some (.slice none 0 0), some v, a], [], K⟩ ∧ Drew b bv code H K ∧ Own H.length K v xs ∧ 0 < xs.length ∧ i ≤ xs.length ∧ xs.length ≤ 40)
        ⟨_, _, _, rfl, d3.trans d4, ho.mov h.lt d4.2, hl1, by omega, by omega⟩ ?_
      rintro i st ⟨v, xs, K, rfl, hd, ho, h1, h2, h3⟩
      have hlv := ho.rd.lenV
      have hcl := ho.rd.cl
      repeat' (first
        | refine W_seq ?_
        | refine W_block ?_
        | (refine W_ret ?_; simp [hlv, hcl])
        | (refine W_skip ?_; simp [hlv, hcl])
        | (refine W_exit ?_; simp [hlv, hcl])
        | (refine V_regc hC ?_; simp [hlv, hcl])
        | (refine V_reg hC ?_; simp [hlv, hcl])
        | (refine (l1Below_ok hd.1 _ (by omega)).mono ?_; rintro _ H1 ⟨d1, x, rfl, hx1, hx2⟩)
        | (refine w_split rfl (fun hq => ?_) (fun hq => ?_) <;> (try simp at hq) <;> simp [hq, hlv, hcl])
        | (refine V_cond rfl (fun hq => ?_) (fun hq => ?_) <;> (try simp at hq))
        | (with_reducible refine And.intro (fun hq => ?_) (fun hq => ?_))
        | (with_reducible intro hq)
        | fail)
      have hx3 : x < 2 := hx2 (by omega)
      have d5 := hd.trans d1
      have ho5 := ho.mov h.lt d1.2
      obtain ⟨a1, v', K2, a2, a3, a4⟩ := app1 ho5 d5.2.1 (⟨11, 0, 0, 0, 0⟩ : Ins) (bytes := 40) (by omega) (by omega)
      have a5 := a3.rd.cl
      have aw : IntKind.i64.wrap (30 + x) = 30 + x := wrap64 (by omega)
      simp [fz, fl] at a1 a2
      all_goals (
        (try simp [a1, a2, a5, aw, hcl])
        repeat' (first
          | refine W_seq ?_
          | refine W_block ?_
          | (refine W_ret ?_; simp [a1, a2, a5, aw, hcl])
          | (refine W_skip ?_; simp [a1, a2, a5, aw, hcl])
          | (refine W_exit ?_; simp [a1, a2, a5, aw, hcl])
          | (refine V_regc hC ?_; simp [a1, a2, a5, aw, hcl])
          | (refine V_reg hC ?_; simp [a1, a2, a5, aw, hcl])
          | (refine w_split rfl (fun hq => ?_) (fun hq => ?_) <;> (try simp at hq) <;> simp [hq, a1, a2, a5, aw, hcl])
          | (refine V_cond rfl (fun hq => ?_) (fun hq => ?_) <;> (try simp at hq))
          | (with_reducible refine And.intro (fun hq => ?_) (fun hq => ?_))
          | (with_reducible intro hq)
          | fail))
      · exact ⟨by omega, _, _, _, ⟨rfl, rfl⟩, d5.keep h a4, a3, by simp, by simp; omega, by simp; omega⟩
      · exact ⟨d5, xs, ho5, h1, h3⟩
    · exact ⟨d3.trans d4, xs, ho.mov h.lt d4.2, hl1, by omega⟩
  repeat' (first
    | (with_reducible refine tail _ _ xs _ ?_ ?_ ?_ ?_)
    | refine W_seq ?_
    | refine W_block ?_
    | (refine W_ret ?_; simp)
    | (refine W_skip ?_; simp)
    | (refine W_exit ?_; simp)
    | (refine V_regc hC ?_; simp)
    | (refine V_reg hC ?_; simp)
    | (refine (l1Below_ok h _ (by omega)).mono ?_; rintro _ H1 ⟨d1, x, rfl, hx1, hx2⟩; simp)
    | (refine (l1DrawProg_ok d1.1 3 _ (by omega) (by omega)).mono ?_; rintro _ H2 ⟨d2, v, rfl, xs, ho, hl1, hl2⟩; simp)
    | (refine (l1Once_ok d2.1 _ (by omega)).mono ?_; rintro _ H3 ⟨d3, y, rfl⟩; simp)
    | (refine w_split rfl (fun hq => ?_) (fun hq => ?_) <;> (try simp at hq) <;> simp [hq])
    | (refine V_cond rfl (fun hq => ?_) (fun hq => ?_) <;> (try simp at hq))
    | (with_reducible refine And.intro (fun hq => ?_) (fun hq => ?_))
    | (with_reducible intro hq)
    | fail)
  · have ho2 := (ho.mov d1.1.lt d3.2).le d1.2.1
    have d4 := (d1.trans d2).trans d3
    have hlv := ho2.rd.lenV
    all_goals (
      (try simp [hlv])
      repeat' (first
        | refine W_seq ?_
        | refine W_block ?_
        | (refine W_ret ?_; simp [hlv])
        | (refine W_skip ?_; simp [hlv])
        | (refine W_exit ?_; simp [hlv])
        | (refine V_regc hC ?_; simp [hlv])
        | (refine V_reg hC ?_; simp [hlv])
        | (refine (l1Below_ok d4.1 _ (by omega)).mono ?_; rintro _ H4 ⟨d5, i, rfl, hi1, hi2⟩)
        | (refine w_split rfl (fun hq => ?_) (fun hq => ?_) <;> (try simp at hq) <;> simp [hq, hlv])
        | (refine V_cond rfl (fun hq => ?_) (fun hq => ?_) <;> (try simp at hq))
        | (with_reducible refine And.intro (fun hq => ?_) (fun hq => ?_))
        | (with_reducible intro hq)
        | fail))
    have hi : 0 ≤ i ∧ i < xs.length := ⟨hi1, hi2 (by omega)⟩
    have ho3 := ho2.mov h.lt d5.2
    have e1 := ho3.rd.elemPI hi .i64
    have e2 := ho3.rd.atIns hi
    simp [sz, fz, fl] at e1 e2
    all_goals (
      (try simp [e1, e2])
      repeat' (first
        | refine W_seq ?_
        | refine W_block ?_
        | (refine W_ret ?_; simp [e1, e2])
        | (refine W_skip ?_; simp [e1, e2])
        | (refine W_exit ?_; simp [e1, e2])
        | (refine V_regc hC ?_; simp [e1, e2])
        | (refine V_reg hC ?_; simp [e1, e2])
        | (refine (l1Spoil_ok d5.1 _ _ _ _ _).mono ?_; rintro _ H5 ⟨d6, op, r, a, b', n, rfl⟩)
        | (refine w_split rfl (fun hq => ?_) (fun hq => ?_) <;> (try simp at hq) <;> simp [hq, e1, e2])
        | (refine V_cond rfl (fun hq => ?_) (fun hq => ?_) <;> (try simp at hq))
        | (with_reducible refine And.intro (fun hq => ?_) (fun hq => ?_))
        | (with_reducible intro hq)
        | fail))
    have ho4 := ho3.mov h.lt d6.2
    have d7 := (d4.trans d5).trans d6
    obtain ⟨H6, w1, w2, w3⟩ := ho4.wr (i := i.toNat) (by omega) (off := 0) (us := [.int .i64 op, .int .i64 r, .int .i64 a, .int .i64 b', .int .i64 n]) (by simp [fz]) (y := ⟨op, r, a, b', n⟩) (by simp [fl])
    simp [sz, fz, fl] at w1
    all_goals (
      (try simp [e1, w1])
      repeat' (first
        | (with_reducible refine tail _ _ (xs.set i.toNat ⟨op, r, a, b', n⟩) _ ?_ ?_ ?_ ?_)
        | refine W_seq ?_
        | refine W_block ?_
        | (refine W_ret ?_; simp [e1, w1])
        | (refine W_skip ?_; simp [e1, w1])
        | (refine W_exit ?_; simp [e1, w1])
        | (refine V_regc hC ?_; simp [e1, w1])
        | (refine V_reg hC ?_; simp [e1, w1])
        | (refine w_split rfl (fun hq => ?_) (fun hq => ?_) <;> (try simp at hq) <;> simp [hq, e1, w1])
        | (refine V_cond rfl (fun hq => ?_) (fun hq => ?_) <;> (try simp at hq))
        | (with_reducible refine And.intro (fun hq => ?_) (fun hq => ?_))
        | (with_reducible intro hq)
        | fail))
    · exact d7.keep h w3
    · exact w2
    all_goals (simp; omega)
  · exact (d1.trans d2).trans d3
  · exact (ho.mov d1.1.lt d3.2).le d1.2.1
  · exact hl1
  · exact hl2

end Go.Proofs.Ytpnbojehfngigaa.IM

/- The reference's StateOk, Next and Do. -/
namespace Go.Proofs.Ytpnbojehfngigaa.IM
open Go Go.Proofs Enc Flat
set_option linter.unusedVariables false
set_option linter.unusedSimpArgs false

theorem getI_mem {l : List Int} {i : Nat} (h : i < l.length) : getI l i = l[i] := getI_get h rfl

set_option maxHeartbeats 4000000 in
theorem sStateOk_ok {l : List Ins} {s : State} {vl r o : Value} {H : Heap} (hl : Rd H vl l) (hll : l.length < 2 ^ 40) (hr : Rd H r s.regs) (ho : Rd H o s.out) (h1 : s.regs.length < 2 ^ 40) (h2 : s.out.length < 2 ^ 40) :
    ICall pg 68 [vl, stV s r o] H (Same H [.bool (stateOk l s)]) := by
  refine go68 rfl fun C hC => ?_
  have c1 := hl.lenV
  have c2 := hr.lenV
  have c3 := ho.lenV
  have aw : IntKind.i64.wrap ((l.length : Int) - 1) = (l.length : Int) - 1 := wrap64 (by omega)
  simp only [stV]
  repeat' (first
    | refine W_seq ?_
    | refine W_block ?_
    | (refine W_ret ?_; simp [c1, c2, c3, aw, Same])
    | (refine W_skip ?_; simp [c1, c2, c3, aw, Same])
    | (refine W_exit ?_; simp [c1, c2, c3, aw, Same])
    | (refine V_regc hC ?_; simp [c1, c2, c3, aw, Same])
    | (refine V_reg hC ?_; simp [c1, c2, c3, aw, Same])
    | (refine (l1In_ok _ _ _ _).mono ?_; rintro _ _ ⟨rfl, rfl⟩; simp [c1, c2, c3, aw, Same])
    | (refine w_split rfl (fun hq => ?_) (fun hq => ?_) <;> (try simp at hq) <;> simp [hq, c1, c2, c3, aw, Same])
    | (refine V_cond rfl (fun hq => ?_) (fun hq => ?_) <;> (try simp at hq))
    | (with_reducible refine And.intro (fun hq => ?_) (fun hq => ?_))
    | (with_reducible intro hq)
    | fail)
  rotate_left
  · rename_i q1 q2 q3
    have q4 : s.regs.length = 4 := by omega
    have hst : ∀ A B : Bool, A = s.regs.all numB → B = s.out.all numB → stateOk l s = (A && B) := by
      rintro _ _ rfl rfl
      have q5 : s.out.length ≤ 60 := by omega
      simp [stateOk, q4, q2, q3, q5]
    refine W_count 4 (fun i st => i ≤ 4 ∧ st = ⟨[some vl, some (.agg #[.int .i64 s.pc, r, o, .int .i64 s.code]), some (.bool false), some (.int .i64 i), none], [[.int .i64 s.pc, r, o, .int .i64 s.code]], H⟩ ∧ ∀ y ∈ s.regs.take i, numB y = true) ⟨by omega, rfl, by simp⟩ ?_
    rintro i st ⟨hi, rfl, hno⟩
    by_cases hlt : i < 4
    · have hlt' : (i : Int) < 4 := by omega
      have e1 := hr.elemP (i := i) (by omega) .i64
      have e2 := hr.all (i := i) (by omega)
      simp [sz, fz, fl] at e1 e2
      repeat' (first
        | refine W_seq ?_
        | refine W_block ?_
        | (refine W_ret ?_; simp [e1, e2, hlt', Same])
        | (refine W_skip ?_; simp [e1, e2, hlt', Same])
        | (refine W_exit ?_; simp [e1, e2, hlt', Same])
        | (refine V_regc hC ?_; simp [e1, e2, hlt', Same])
        | (refine V_reg hC ?_; simp [e1, e2, hlt', Same])
        | (refine (l1Num_ok _ _).mono ?_; rintro _ _ ⟨rfl, rfl⟩; simp [e1, e2, hlt', Same])
        | (refine w_split rfl (fun hq => ?_) (fun hq => ?_) <;> (try simp at hq) <;> simp [hq, e1, e2, hlt', Same])
        | (refine V_cond rfl (fun hq => ?_) (fun hq => ?_) <;> (try simp at hq))
        | (with_reducible refine And.intro (fun hq => ?_) (fun hq => ?_))
        | (with_reducible intro hq)
        | fail)
      · rw [hst false (s.out.all numB) ?_ rfl]
        · rfl
        · symm
          rw [List.all_eq_false]
          exact ⟨s.regs[i], List.getElem_mem _, by simp [hq]⟩
      · exact ⟨by omega, by omega, wrap64 (by omega), all_succ (by omega) hno hq⟩
    · have hall : s.regs.all numB = true := List.all_eq_true.2 (all_end (by omega) hno)
      have hlt' : ¬ (i : Int) < 4 := by omega
      repeat' (first
        | refine W_seq ?_
        | refine W_block ?_
        | (refine W_ret ?_; simp [hlt', Same])
        | (refine W_skip ?_; simp [hlt', Same])
        | (refine W_exit ?_; simp [hlt', Same])
        | (refine V_regc hC ?_; simp [hlt', Same])
        | (refine V_reg hC ?_; simp [hlt', Same])
        | (refine w_split rfl (fun hq => ?_) (fun hq => ?_) <;> (try simp at hq) <;> simp [hq, hlt', Same])
        | (refine V_cond rfl (fun hq => ?_) (fun hq => ?_) <;> (try simp at hq))
        | (with_reducible refine And.intro (fun hq => ?_) (fun hq => ?_))
        | (with_reducible intro hq)
        | fail)
      refine W_count s.out.length (fun j st => j ≤ s.out.length ∧ st = ⟨[some vl, some (.agg #[.int .i64 s.pc, r, o, .int .i64 s.code]), some (.bool false), some (.int .i64 i), some (.int .i64 j)], [[.int .i64 s.pc, r, o, .int .i64 s.code]], H⟩ ∧ ∀ y ∈ s.out.take j, numB y = true) ⟨by omega, rfl, by simp⟩ ?_
      rintro j st ⟨hj, rfl, hno2⟩
      by_cases hlt2 : j < s.out.length
      · have e1 := ho.elemP hlt2 .i64
        have e2 := ho.all hlt2
        simp [sz, fz, fl] at e1 e2
        repeat' (first
          | refine W_seq ?_
          | refine W_block ?_
          | (refine W_ret ?_; simp [e1, e2, c3, hlt2, Same])
          | (refine W_skip ?_; simp [e1, e2, c3, hlt2, Same])
          | (refine W_exit ?_; simp [e1, e2, c3, hlt2, Same])
          | (refine V_regc hC ?_; simp [e1, e2, c3, hlt2, Same])
          | (refine V_reg hC ?_; simp [e1, e2, c3, hlt2, Same])
          | (refine (l1Num_ok _ _).mono ?_; rintro _ _ ⟨rfl, rfl⟩; simp [e1, e2, c3, hlt2, Same])
          | (refine w_split rfl (fun hq => ?_) (fun hq => ?_) <;> (try simp at hq) <;> simp [hq, e1, e2, c3, hlt2, Same])
          | (refine V_cond rfl (fun hq => ?_) (fun hq => ?_) <;> (try simp at hq))
          | (with_reducible refine And.intro (fun hq => ?_) (fun hq => ?_))
          | (with_reducible intro hq)
          | fail)
        · rw [hst (s.regs.all numB) false rfl ?_]
          · simp
          · symm
            rw [List.all_eq_false]
            exact ⟨s.out[j], List.getElem_mem _, by simp [hq]⟩
        · exact ⟨by omega, wrap64 (by omega), all_succ (by omega) hno2 hq⟩
      · repeat' (first
          | refine W_seq ?_
          | refine W_block ?_
          | (refine W_ret ?_; simp [hlt2, c3, Same])
          | (refine W_skip ?_; simp [hlt2, c3, Same])
          | (refine W_exit ?_; simp [hlt2, c3, Same])
          | (refine V_regc hC ?_; simp [hlt2, c3, Same])
          | (refine V_reg hC ?_; simp [hlt2, c3, Same])
          | (refine w_split rfl (fun hq => ?_) (fun hq => ?_) <;> (try simp at hq) <;> simp [hq, hlt2, c3, Same])
          | (refine V_cond rfl (fun hq => ?_) (fun hq => ?_) <;> (try simp at hq))
          | (with_reducible refine And.intro (fun hq => ?_) (fun hq => ?_))
          | (with_reducible intro hq)
          | fail)
        rw [hst true true hall.symm (List.all_eq_true.2 (all_end hlt2 hno2)).symm]
        rfl
  all_goals simp_all [stateOk]
  all_goals omega

theorem state_of {l : List Ins} {s : State} (h : stateOk l s = true) : s.regs.length = 4 ∧ (0 ≤ s.pc ∧ s.pc < l.length) ∧ (0 ≤ s.code ∧ s.code ≤ 2) ∧ s.out.length ≤ 60 := by
  simp [stateOk, inB] at h
  omega

/-- A program that is right, and a state of it that runs. -/
def rightB (l : List Ins) (s : State) : Bool := progOk l 4 && stateOk l s && s.code == 0

theorem right_fit {l : List Ins} {s : State} (h : rightB l s = true) : Prg l ∧ Fit l s ∧ s.out.length ≤ 60 ∧ s.code = 0 := by
  simp [rightB] at h
  obtain ⟨h1, h2, h3, h4⟩ := state_of h.1.2
  exact ⟨.of h.1.1, ⟨h2, h1⟩, h4, h.2⟩

theorem l2Right_ok {l : List Ins} {s : State} {vl r o : Value} {H : Heap} (hl : Rd H vl l) (hll : l.length < 2 ^ 40) (hr : Rd H r s.regs) (ho : Rd H o s.out) (h1 : s.regs.length < 2 ^ 40) (h2 : s.out.length < 2 ^ 40) :
    ICall pg 66 [vl, stV s r o] H (Same H [.bool (rightB l s)]) := by
  refine go66 rfl fun C hC => ?_
  simp only [stV]
  repeat' (first
    | refine W_seq ?_
    | refine W_block ?_
    | (refine W_ret ?_; simp [Same])
    | (refine W_skip ?_; simp [Same])
    | (refine W_exit ?_; simp [Same])
    | (refine V_regc hC ?_; simp [Same])
    | (refine V_reg hC ?_; simp [Same])
    | (refine (sProgOk_ok 4 hl hll (by omega)).mono ?_; rintro _ _ ⟨rfl, rfl⟩; simp [Same])
    | (refine (sStateOk_ok (s := s) hl hll hr ho h1 h2).mono ?_; rintro _ _ ⟨rfl, rfl⟩; simp [Same])
    | (refine w_split rfl (fun hq => ?_) (fun hq => ?_) <;> (try simp at hq) <;> simp [hq, Same])
    | (refine V_cond rfl (fun hq => ?_) (fun hq => ?_) <;> (try simp at hq))
    | (with_reducible refine And.intro (fun hq => ?_) (fun hq => ?_))
    | (with_reducible intro hq)
    | fail)
  · simp [rightB, hq, *, Bool.beq_eq_decide_eq]
  · simp [rightB, hq]
  · simp [rightB, hq]

def nextR (l : List Ins) (s : State) : Event := if rightB l s = true then nextE l s else .zero

theorem sNext_ok {l : List Ins} {s : State} {vl r o : Value} {H : Heap} (hl : Rd H vl l) (hll : l.length < 2 ^ 40) (hr : Rd H r s.regs) (ho : Rd H o s.out) (h1 : s.regs.length < 2 ^ 40) (h2 : s.out.length < 2 ^ 40) :
    ICall pg 61 [vl, stV s r o] H (Same H [.agg (fl (nextR l s)).toArray]) := by
  refine go61 rfl fun C hC => ?_
  have e := @l2Right_ok l s vl r o H hl hll hr ho h1 h2
  have e' : rightB l s = true → ICall pg 34 [vl, stV s r o] H (Same H [.agg (fl (nextE l s)).toArray]) := fun h => l2Next_ok hl hr (right_fit h).1 (right_fit h).2.1
  simp only [stV] at e e' ⊢
  repeat' (first
    | refine W_seq ?_
    | refine W_block ?_
    | (refine W_ret ?_; simp [Same])
    | (refine W_skip ?_; simp [Same])
    | (refine W_exit ?_; simp [Same])
    | (refine V_regc hC ?_; simp [Same])
    | (refine V_reg hC ?_; simp [Same])
    | (refine e.mono ?_; rintro _ _ ⟨rfl, rfl⟩; simp [Same])
    | (refine (e' (by assumption)).mono ?_; rintro _ _ ⟨rfl, rfl⟩; simp only [fl]; simp [Same])
    | (refine w_split rfl (fun hq => ?_) (fun hq => ?_) <;> (try simp at hq) <;> simp [hq, Same])
    | (refine V_cond rfl (fun hq => ?_) (fun hq => ?_) <;> (try simp at hq))
    | (with_reducible refine And.intro (fun hq => ?_) (fun hq => ?_))
    | (with_reducible intro hq)
    | fail)
  · simp [nextR, hq, fl, Event.zero]
  · simp [nextR, hq]

def doS (l : List Ins) (s : State) (e : Event) : State := if rightB l s = true then doneS l s e else s
def doB (l : List Ins) (s : State) (e : Event) : Bool := rightB l s && comesB e (nextE l s)

theorem sDo_ok {l : List Ins} {s : State} {vl r o : Value} {H : Heap} (e : Event) (hl : Rd H vl l) (hll : l.length < 2 ^ 40) (hr : Rd H r s.regs) (ho : Rd H o s.out) (h1 : s.regs.length ≤ 2 ^ 36) (h2 : s.out.length ≤ 2 ^ 36) :
    ICall pg 62 [vl, stV s r o, .agg (fl e).toArray] H fun res H' => Gent H H' ∧ ∃ r' o', res = [stV (doS l s e) r' o', .bool (doB l s e)] ∧ Own2 H.length H' r' (doS l s e).regs o' (doS l s e).out := by
  refine go62 rfl fun C hC => ?_
  have e1 := @l2Right_ok l s vl r o H hl hll hr ho (by omega) (by omega)
  have e2 := fun h : rightB l s = true => @l2Do_ok l s vl r o H e hl hr ho (right_fit h).1 (right_fit h).2.1 (right_fit h).2.2.1
  have e3 := @l2Copy_ok s r o H hr ho h1 h2
  obtain ⟨ek, ep, ev⟩ := e
  simp only [stV, fl] at e1 e2 e3 ⊢
  repeat' (first
    | refine W_seq ?_
    | refine W_block ?_
    | (refine W_ret ?_; simp)
    | (refine W_skip ?_; simp)
    | (refine W_exit ?_; simp)
    | (refine V_regc hC ?_; simp)
    | (refine V_reg hC ?_; simp)
    | (refine e1.mono ?_; rintro _ _ ⟨rfl, rfl⟩; simp)
    | (refine (e2 (by assumption)).mono ?_; rintro _ H1 ⟨hg, r', o', rfl, hw⟩; simp)
    | (refine e3.mono ?_; rintro _ H1 ⟨hg, r', o', rfl, hw⟩; simp)
    | (refine w_split rfl (fun hq => ?_) (fun hq => ?_) <;> (try simp at hq) <;> simp [hq])
    | (refine V_cond rfl (fun hq => ?_) (fun hq => ?_) <;> (try simp at hq))
    | (with_reducible refine And.intro (fun hq => ?_) (fun hq => ?_))
    | (with_reducible intro hq)
    | fail)
  · have q1 : doS l s ⟨ek, ep, ev⟩ = s := by simp [doS, hq]
    have q2 : doB l s ⟨ek, ep, ev⟩ = false := by simp [doB, hq]
    rw [q1, q2]
    exact ⟨hg, r', o', ⟨⟨rfl, rfl, rfl, rfl⟩, rfl⟩, hw⟩
  · have q1 : doS l s ⟨ek, ep, ev⟩ = doneS l s ⟨ek, ep, ev⟩ := by simp [doS, hq]
    have q2 : doB l s ⟨ek, ep, ev⟩ = comesB ⟨ek, ep, ev⟩ (nextE l s) := by simp [doB, hq]
    rw [q1, q2]
    exact ⟨hg, r', o', ⟨⟨rfl, rfl, rfl, rfl⟩, rfl⟩, hw⟩

theorem doS_len {l : List Ins} {s : State} (e : Event) (h1 : s.regs.length ≤ 4) (h2 : s.out.length ≤ 60) : (doS l s e).regs.length ≤ 4 ∧ (doS l s e).out.length ≤ 60 := by
  unfold doS
  by_cases h : rightB l s = true
  · obtain ⟨_, hf, ho, _⟩ := right_fit h
    rw [if_pos h]
    unfold doneS
    split
    · exact ⟨by rw [(didS_fit hf e).regs]; omega, didS_out ho e⟩
    · exact ⟨h1, h2⟩
  · rw [if_neg h]
    exact ⟨h1, h2⟩

end Go.Proofs.Ytpnbojehfngigaa.IM

/- The reference's drawn events. -/
namespace Go.Proofs.Ytpnbojehfngigaa.IM
open Go Go.Proofs Enc Flat
set_option linter.unusedVariables false
set_option linter.unusedSimpArgs false

section
variable {α : Type} [Enc α] {H H' : Heap} {v : Value} {xs : List α} {F : List Nat} {b b0 : Nat} {A : Nat → Prop}

/-- Its outer block is one's own and holds nothing but it; its blocks are not among these. -/
def OwnA (A : Nat → Prop) (b0 : Nat) (H : Heap) (v : Value) (xs : List α) : Prop := ∃ F, Sl true H v xs F ∧ (∀ b ∈ F.tail, F.head? ≠ some b) ∧ (∀ b ∈ F, b0 ≤ b) ∧ ∀ b ∈ F, ¬ A b
/-- It is read, and its blocks are among these. -/
def RdA (A : Nat → Prop) (H : Heap) (v : Value) (xs : List α) : Prop := ∃ F, Sl false H v xs F ∧ ∀ b ∈ F, A b

theorem OwnA.rd (h : OwnA A b0 H v xs) : Rd H v xs := by obtain ⟨F, h, _⟩ := h; exact ⟨F, h.weak⟩
theorem RdA.rd (h : RdA A H v xs) : Rd H v xs := by obtain ⟨F, h, _⟩ := h; exact ⟨F, h⟩
theorem OwnA.gent (h : OwnA A b0 H v xs) (hg : Gent H H') : OwnA A b0 H' v xs := by obtain ⟨F, h, k⟩ := h; exact ⟨F, h.gent hg, k⟩
theorem OwnA.mov (h : OwnA A b0 H v xs) (hb : b < b0) (hm : Mov b H H') : OwnA A b0 H' v xs := by
  obtain ⟨F, h, h1, h2, h3⟩ := h
  exact ⟨F, h.mov (fun hf => by have := h2 b hf; omega) hm, h1, h2, h3⟩
theorem RdA.frame (h : RdA A H v xs) (hf : ∀ b, A b → H'.get b = H.get b) : RdA A H' v xs := by obtain ⟨F, h, k⟩ := h; exact ⟨F, h.frame fun b hb => hf b (k b hb), k⟩
theorem Own.toA (h : Own b0 H v xs) : OwnA (fun b => H.length ≤ b) b0 H v xs := by
  obtain ⟨F, h, h1, h2⟩ := h
  exact ⟨F, h, nodup_head h1, h2, fun b hb => by obtain ⟨B, hB⟩ := h.alive b hb; have := Heap.get_lt hB; omega⟩
theorem OwnA.toA (h : OwnA A b0 H v xs) : OwnA (fun b => H.length ≤ b ∧ b < H'.length) b0 H v xs := by
  obtain ⟨F, h, h1, h2, h3⟩ := h
  exact ⟨F, h, h1, h2, fun b hb => by obtain ⟨B, hB⟩ := h.alive b hb; have := Heap.get_lt hB; omega⟩
theorem Own.rdA {b1 : Nat} (h : Own b1 H v xs) : RdA (fun b => b1 ≤ b ∧ b < H.length) H v xs := by
  obtain ⟨F, h, h1, h2⟩ := h
  exact ⟨F, h.weak, fun b hb => ⟨h2 b hb, by obtain ⟨B, hB⟩ := h.alive b hb; exact Heap.get_lt hB⟩⟩

/-- The block of a slice. -/
def hd : Value → Option Nat
  | .slice (some a) _ _ => some a.block
  | _ => none
theorem Sl.hd {m : Bool} (h : Sl m H v xs F) : F.head? = hd v := by
  rcases h with ⟨rfl, _, rfl⟩ | ⟨b, c, pre, ds, post, rw, Gs, rfl, _, _, _, rfl, _⟩ <;> rfl
theorem Sl.hd_lt {m : Bool} (h : Sl m H v xs F) (hb : IM.hd v = some b) : b < H.length := by
  rw [← Sl.hd h] at hb
  obtain ⟨B, hB⟩ := h.alive b (List.mem_of_mem_head? hb)
  exact Heap.get_lt hB
theorem OwnA.hd_lt (h : OwnA A b0 H v xs) (hb : IM.hd v = some b) : b < H.length := by obtain ⟨F, h, _⟩ := h; exact h.hd_lt hb

/-- One more. -/
theorem OwnA.app (h : OwnA A b0 H v xs) (hA : ∀ b, A b → b < H.length) (hb : b0 ≤ H.length) {y : α} {cs : List Value} {G : List Nat} (hy : enc true H y cs G) (hG : ∀ b ∈ G, b0 ≤ b ∧ ¬ A b ∧ IM.hd v ≠ some b) {bytes : Nat} (hbt : 0 < bytes ∧ bytes ≤ 256) (hl : xs.length + 1 ≤ 2 ^ 38) :
    (H.add ⟨cs, sz α, true⟩).cellsOf (.slice (some ⟨H.length, 0, none⟩) 1 1) (sz α) = some cs ∧
    ∃ v' H', (H.add ⟨cs, sz α, true⟩).app v (sz α) bytes 1 cs = some (v', H') ∧ OwnA A b0 H' v' (xs ++ [y]) ∧ Keep b0 H H' ∧ ∀ b, A b → H'.get b = H.get b := by
  obtain ⟨F, h, h1, h2, h3⟩ := h
  have hcl := len hy
  have hy' : encs true H [y] cs [G] := ⟨cs, G, [], [], by simp, rfl, hy, rfl, rfl⟩
  have hhd := Sl.hd h
  refine ⟨?_, ?_⟩
  · obtain ⟨ds, Gs, e1, e2, _⟩ := (Sl.laid (m := true) hy').cellsOf
    simp only [Heap.cellsOf, get_add] at e1 ⊢
    simp [hcl]
    rw [← hcl, List.take_length]
  obtain ⟨v', H', e1, e2, e3, e4⟩ := (h.gent (gent_add' H ⟨cs, sz α, true⟩)).app h1 (encs_frame hy' fun b hb => by obtain ⟨B, hB⟩ := encs_alive hy' b hb; exact Heap.get_old H _ (Heap.get_lt hB)) (by rw [hhd]; simpa using fun b hb => (hG b hb).2.2) (by simp) hbt (by simpa using hl)
  refine ⟨v', H', e1, ⟨_, e2, ?_, ?_, ?_⟩, ⟨by simp at e3; omega, fun b hbb => ?_⟩, fun b hb => ?_⟩
  · simp only [List.tail_cons, List.head?_cons, List.flatten_cons, List.flatten_nil, List.append_nil, List.mem_append]
    rintro b hb e
    have : b = (H.add ⟨cs, sz α, true⟩).length := by simpa using e.symm
    have hlt : b < H.length := by
      rcases hb with hb | hb
      · obtain ⟨B, hB⟩ := h.alive b (List.mem_of_mem_tail hb); exact Heap.get_lt hB
      · obtain ⟨B, hB⟩ := Enc.alive hy b hb; exact Heap.get_lt hB
    simp at this
    omega
  · simp only [List.flatten_cons, List.flatten_nil, List.append_nil, List.mem_cons, List.mem_append]
    rintro b (rfl | hb | hb)
    · simp; omega
    · exact h2 b (List.mem_of_mem_tail hb)
    · exact (hG b hb).1
  · simp only [List.flatten_cons, List.flatten_nil, List.append_nil, List.mem_cons, List.mem_append]
    rintro b (rfl | hb | hb) ha
    · have := hA _ ha
      simp at this
      omega
    · exact h3 b (List.mem_of_mem_tail hb) ha
    · exact (hG b hb).2.1 ha
  · rw [e4 b (by simp; omega) fun e => ?_, (gent_add' H _).2 b (by omega)]
    have := h2 b (List.mem_of_mem_head? e)
    omega
  · have := hA b hb
    rw [e4 b (by simp; omega) fun e => ?_, (gent_add' H _).2 b this]
    exact h3 b (List.mem_of_mem_head? e) hb
end

theorem OwnA.appF {α : Type} [Flat α] {H : Heap} {v : Value} {xs : List α} {b0 : Nat} {A : Nat → Prop} (h : OwnA A b0 H v xs) (hA : ∀ b, A b → b < H.length) (hb : b0 ≤ H.length) (y : α) {bytes : Nat} (hbt : 0 < bytes ∧ bytes ≤ 256) (hl : xs.length + 1 ≤ 2 ^ 38) :
    (H.add ⟨fl y, fz α, true⟩).cellsOf (.slice (some ⟨H.length, 0, none⟩) 1 1) (fz α) = some (fl y) ∧
    ∃ v' H', (H.add ⟨fl y, fz α, true⟩).app v (fz α) bytes 1 (fl y) = some (v', H') ∧ OwnA A b0 H' v' (xs ++ [y]) ∧ Keep b0 H H' ∧ ∀ b, A b → H'.get b = H.get b :=
  h.app hA hb (y := y) (G := []) ⟨rfl, rfl⟩ (by simp) hbt hl

set_option maxHeartbeats 4000000 in
theorem l3DrawEvents_ok {b : Nat} {bv vl : Value} {code : List UInt8} {l : List Ins} {H : Heap} (h : Cu b bv code H) (hl : RdX b H vl l) (hll : l.length < 2 ^ 40) : ICall pg 46 [cp b, vl] H fun res H' => Drew b bv code H H' ∧ ∃ v, res = [v] ∧ ∃ es : List Event, (∃ A, OwnA A H.length H' v es) ∧ es.length ≤ 30 := by
  refine go46 rfl fun C hC => ?_
  repeat' (first
    | refine W_seq ?_
    | refine W_block ?_
    | (refine W_ret ?_; simp)
    | (refine W_skip ?_; simp)
    | (refine W_exit ?_; simp)
    | (refine V_regc hC ?_; simp)
    | (refine V_reg hC ?_; simp)
    | (refine (sStateNew_ok _).mono ?_; rintro _ H1 ⟨hg1, r0, rfl, hw0⟩; simp only [stV])
    | (refine w_split rfl (fun hq => ?_) (fun hq => ?_) <;> (try simp at hq) <;> simp [hq])
    | (refine V_cond rfl (fun hq => ?_) (fun hq => ?_) <;> (try simp at hq))
    | (with_reducible refine And.intro (fun hq => ?_) (fun hq => ?_))
    | (with_reducible intro hq)
    | fail)
  have d1 : Drew b bv code H H1 := ⟨h.gent ((gent_add' _ _).trans hg1), ((gent_add' _ _).trans hg1).mov⟩
  have ho : OwnA (fun b => H.length + 1 ≤ b ∧ b < H1.length) H.length H1 (.slice (some ⟨H.length, 0, none⟩) 0 0) ([] : List Event) := by
    have := (Own.laid (Nat.le_refl H.length) ([] : List Event)).toA.toA (H' := H1)
    simpa using this.gent hg1
  all_goals (
    (try simp)
    repeat' (first
      | refine W_seq ?_
      | refine W_block ?_
      | (refine W_ret ?_; simp)
      | (refine W_skip ?_; simp)
      | (refine W_exit ?_; simp)
      | (refine V_regc hC ?_; simp)
      | (refine V_reg hC ?_; simp)
      | (refine (l1Below_ok d1.1 _ (by omega)).mono ?_; rintro _ H2 ⟨d2, x, rfl, hx1, hx2⟩)
      | (refine w_split rfl (fun hq => ?_) (fun hq => ?_) <;> (try simp at hq) <;> simp [hq])
      | (refine V_cond rfl (fun hq => ?_) (fun hq => ?_) <;> (try simp at hq))
      | (with_reducible refine And.intro (fun hq => ?_) (fun hq => ?_))
      | (with_reducible intro hq)
      | fail))
  all_goals (
    (try simp)
    repeat' (first
      | refine W_seq ?_
      | refine W_block ?_
      | (refine W_ret ?_; simp)
      | (refine W_skip ?_; simp)
      | (refine W_exit ?_; simp)
      | (refine V_regc hC ?_; simp)
      | (refine V_reg hC ?_; simp)
      | (refine w_split rfl (fun hq => ?_) (fun hq => ?_) <;> (try simp at hq) <;> simp [hq])
      | (refine V_cond rfl (fun hq => ?_) (fun hq => ?_) <;> (try simp at hq))
      | (with_reducible refine And.intro (fun hq => ?_) (fun hq => ?_))
      | (with_reducible intro hq)
      | fail))
  obtain ⟨n, rfl⟩ : ∃ n : Nat, x = n := ⟨x.toNat, by omega⟩
  have hn : n < 25 := by omega
  have dd := d1.trans d2
  refine W_count n (fun i st => ∃ (v : Value) (es : List Event) (s1 : State) (r1 o1 : Value) (a1 : Option Value) (b1 b2 : List Value) (A : Nat → Prop) (K : Heap), st = ⟨[some (cp b), some vl, some (.slice none 0 0), some v, some (.int .i64 n), some (.int .i64 i), a1], [[.int .i64 s1.pc, r1, o1, .int .i64 s1.code], b1, b2], K⟩ ∧
      Drew b bv code H K ∧ OwnA A H.length K v es ∧ es.length = i ∧ i ≤ n ∧ RdA A K r1 s1.regs ∧ RdA A K o1 s1.out ∧ (∀ b', A b' → H.length ≤ b' ∧ b' < K.length) ∧ s1.regs.length ≤ 4 ∧ s1.out.length ≤ 60)
    ⟨_, [], .start, r0, .slice none 0 0, none, [], [], _, H2, rfl, dd, ho.mov h.lt d2.2, rfl, by omega, ?_, ?_, fun b' hb' => ⟨by omega, by have := d2.2.1; omega⟩, by simp [State.start], by simp [State.start]⟩ ?_
  · have := hw0.fst.rdA
    simp only [add_length] at this
    exact this.frame fun b' hb' => d2.2.2 b' hb'.2 (by have := h.lt; omega)
  · exact ⟨[], .nil, by simp⟩
  rintro i st ⟨v, es, ⟨p1, g1, t1, c1⟩, r1, o1, a1, b1, b2, A, K, rfl, hd, hv, hes, hi, hr, hoo, hA, hs1, hs2⟩
  simp only at hr hoo hs1 hs2 ⊢
  have hcl := hv.rd.cl
  by_cases hlt : i < n
  · have hlK : Rd K vl l := (hl.mov hd.2).rd
    have e1 := @sNext_ok l ⟨p1, g1, t1, c1⟩ vl r1 o1 K hlK hll hr.rd hoo.rd (by simp only; omega) (by simp only; omega)
    obtain ⟨⟨ek, ep, ev⟩, hE⟩ : ∃ e, e = nextR l ⟨p1, g1, t1, c1⟩ := ⟨_, rfl⟩
    rw [← hE] at e1
    simp only [stV, fl] at e1
    have tail : ∀ (K' : Heap) (ep ev : Int) (Q : IExit → St → Prop), Drew b bv code K K' →
        (∀ K2 a2 B, Drew b bv code H K2 → OwnA A H.length K2 v es → Q .ret ⟨[some (cp b), some vl, some v, some v, some (.int .i64 n), some (.int .i64 i), a2], B, K2⟩) →
        (∀ (v2 : Value) (y : Event) (s2 : State) (r2 o2 : Value) (a2 : Option Value) (b1 b2 : List Value) (A2 : Nat → Prop) (K2 : Heap), Drew b bv code H K2 → OwnA A2 H.length K2 v2 (es ++ [y]) → RdA A2 K2 r2 s2.regs → RdA A2 K2 o2 s2.out → (∀ b', A2 b' → H.length ≤ b' ∧ b' < K2.length) → s2.regs.length ≤ 4 → s2.out.length ≤ 60 →
          Q .normal ⟨[some (cp b), some vl, some (.slice none 0 0), some v2, some (.int .i64 n), some (.int .i64 i), a2], [[.int .i64 s2.pc, r2, o2, .int .i64 s2.code], b1, b2], K2⟩) →
        W pg C c46_21 ⟨[some (cp b), some vl, some (.slice none 0 0), some v, some (.int .i64 n), some (.int .i64 i), a1], [[.int .i64 p1, r1, o1, .int .i64 c1], [.int .i64 ek, .int .i64 ep, .int .i64 ev], b2], K'⟩ Q := by
      intro K' ep ev Q dk hret hnorm
      have hd' := hd.trans dk
      have hv' := hv.mov h.lt dk.2
      have hr' := hr.frame fun b' hb' => dk.2.2 b' (hA b' hb').2 (by have := hA b' hb'; have := h.lt; omega)
      have hoo' := hoo.frame fun b' hb' => dk.2.2 b' (hA b' hb').2 (by have := hA b' hb'; have := h.lt; omega)
      have e2 := @sDo_ok l ⟨p1, g1, t1, c1⟩ vl r1 o1 K' ⟨ek, ep, ev⟩ (hl.mov hd'.2).rd hll hr'.rd hoo'.rd (by simp only; omega) (by simp only; omega)
      obtain ⟨hs3, hs4⟩ := @doS_len l ⟨p1, g1, t1, c1⟩ ⟨ek, ep, ev⟩ hs1 hs2
      obtain ⟨⟨p2, g2, t2, c2⟩, hS⟩ : ∃ s, s = doS l ⟨p1, g1, t1, c1⟩ ⟨ek, ep, ev⟩ := ⟨_, rfl⟩
      obtain ⟨ok, hok⟩ : ∃ k, k = doB l ⟨p1, g1, t1, c1⟩ ⟨ek, ep, ev⟩ := ⟨_, rfl⟩
      rw [← hS, ← hok] at e2
      rw [← hS] at hs3 hs4
      simp only [stV, fl] at e2 hs3 hs4
      repeat' (first
        | refine W_seq ?_
        | refine W_block ?_
        | (refine W_ret ?_; simp)
        | (refine W_skip ?_; simp)
        | (refine W_exit ?_; simp)
        | (refine V_regc hC ?_; simp)
        | (refine V_reg hC ?_; simp)
        | (refine e2.mono ?_; rintro _ K2 ⟨hg2, r2, o2, rfl, hw2⟩)
        | (refine w_split rfl (fun hq => ?_) (fun hq => ?_) <;> (try simp at hq) <;> simp [hq])
        | (refine V_cond rfl (fun hq => ?_) (fun hq => ?_) <;> (try simp at hq))
        | (with_reducible refine And.intro (fun hq => ?_) (fun hq => ?_))
        | (with_reducible intro hq)
        | fail)
      have hd2 : Drew b bv code H K2 := hd'.trans ⟨hd'.1.gent hg2, hg2.mov⟩
      have hv2 : OwnA (fun b' => K'.length ≤ b' ∧ b' < K2.length) H.length K2 v es := hv'.toA.gent hg2
      obtain ⟨f1, v3, K3, f2, f3, f4, f5⟩ := hv2.appF (fun b' hb' => hb'.2) hd2.2.1 (⟨ek, ep, ev⟩ : Event) (bytes := 24) (by omega) (by omega)
      simp [fz, fl] at f1 f2
      have f6 := f3.rd.cl
      all_goals (
        (try simp [f1, f2, f6, hcl])
        repeat' (first
          | refine W_seq ?_
          | refine W_block ?_
          | (refine W_ret ?_; simp [f1, f2, f6, hcl])
          | (refine W_skip ?_; simp [f1, f2, f6, hcl])
          | (refine W_exit ?_; simp [f1, f2, f6, hcl])
          | (refine V_regc hC ?_; simp [f1, f2, f6, hcl])
          | (refine V_reg hC ?_; simp [f1, f2, f6, hcl])
          | (refine w_split rfl (fun hq => ?_) (fun hq => ?_) <;> (try simp at hq) <;> simp [hq, f1, f2, f6, hcl])
          | (refine V_cond rfl (fun hq => ?_) (fun hq => ?_) <;> (try simp at hq))
          | (with_reducible refine And.intro (fun hq => ?_) (fun hq => ?_))
          | (with_reducible intro hq)
          | fail))
      · exact hret _ _ _ hd2 (hv'.gent hg2)
      · exact hnorm v3 ⟨ek, ep, ev⟩ ⟨p2, g2, t2, c2⟩ r2 o2 _ _ _ _ K3 (hd2.keep h f4) f3 ((hw2.fst.rdA).frame f5) ((hw2.snd.rdA).frame f5) (fun b' hb' => ⟨by have := hd'.2.1; omega, by have := f4.1; omega⟩) hs3 hs4
    repeat' (first
      | (with_reducible refine tail _ _ _ _ ?_ (fun K9 a2 B q1 q2 => ?_) (fun v2 y2 s2 r2 o2 a2 b1 b2 A2 K9 q1 q2 q3 q4 q5 q6 q7 => ?_))
      | refine W_seq ?_
      | refine W_block ?_
      | (refine W_ret ?_; simp [hlt])
      | (refine W_skip ?_; simp [hlt])
      | (refine W_exit ?_; simp [hlt])
      | (refine V_regc hC ?_; simp [hlt])
      | (refine V_reg hC ?_; simp [hlt])
      | (refine e1.mono ?_; rintro _ _ ⟨rfl, rfl⟩; simp [hlt])
      | (refine (l1Below_ok hd.1 _ (by omega)).mono ?_; rintro _ K1 ⟨dk1, y, rfl, hy1, hy2⟩; simp [hlt])
      | (refine (l1Below_ok dk1.1 _ (by omega)).mono ?_; rintro _ K2 ⟨dk2, z, rfl, hz1, hz2⟩; simp [hlt])
      | (refine w_split rfl (fun hq => ?_) (fun hq => ?_) <;> (try simp at hq) <;> simp [hq, hlt])
      | (refine V_cond rfl (fun hq => ?_) (fun hq => ?_) <;> (try simp at hq))
      | (with_reducible refine And.intro (fun hq => ?_) (fun hq => ?_))
      | (with_reducible intro hq)
      | fail)
    all_goals (try first
      | exact .refl hd.1
      | exact dk1.trans dk2
      | exact dk1)
    all_goals (
      (try simp)
      repeat' (first
        | refine W_seq ?_
        | refine W_block ?_
        | (refine W_ret ?_; simp)
        | (refine W_skip ?_; simp)
        | (refine W_exit ?_; simp)
        | (refine V_regc hC ?_; simp)
        | (refine V_reg hC ?_; simp)
        | (refine w_split rfl (fun hq => ?_) (fun hq => ?_) <;> (try simp at hq) <;> simp [hq])
        | (refine V_cond rfl (fun hq => ?_) (fun hq => ?_) <;> (try simp at hq))
        | (with_reducible refine And.intro (fun hq => ?_) (fun hq => ?_))
        | (with_reducible intro hq)
        | fail))
    all_goals first | exact ⟨q1, es, ⟨A, q2⟩, by omega⟩ | exact ⟨v2, es ++ [y2], s2, r2, o2, a2, b1, b2, A2, K9, ⟨⟨rfl, wrap64 (by omega), rfl⟩, ⟨⟨rfl, rfl, rfl, rfl⟩, rfl, rfl⟩, rfl⟩, q1, q2, by simp [hes], by omega, q3, q4, q5, q6, q7⟩
  · repeat' (first
      | refine W_seq ?_
      | refine W_block ?_
      | (refine W_ret ?_; simp [hlt, hcl])
      | (refine W_skip ?_; simp [hlt, hcl])
      | (refine W_exit ?_; simp [hlt, hcl])
      | (refine V_regc hC ?_; simp [hlt, hcl])
      | (refine V_reg hC ?_; simp [hlt, hcl])
      | (refine w_split rfl (fun hq => ?_) (fun hq => ?_) <;> (try simp at hq) <;> simp [hq, hlt, hcl])
      | (refine V_cond rfl (fun hq => ?_) (fun hq => ?_) <;> (try simp at hq))
      | (with_reducible refine And.intro (fun hq => ?_) (fun hq => ?_))
      | (with_reducible intro hq)
      | fail)
    exact ⟨hd, es, ⟨A, hv⟩, by omega⟩

end Go.Proofs.Ytpnbojehfngigaa.IM

/- DrawReplay. -/
namespace Go.Proofs.Ytpnbojehfngigaa.IM
open Go Go.Proofs Enc Flat
set_option linter.unusedVariables false
set_option linter.unusedSimpArgs false

theorem put_cut (pre ds : List Value) (a b : Nat) (hab : a ≤ b) (hb : b ≤ ds.length) : put (pre ++ ds) (pre.length + a) (ds.drop b) = pre ++ (ds.take a ++ ds.drop b) ++ ds.drop (a + (ds.length - b)) := by
  apply List.ext_getElem?
  intro j
  rw [put_get _ _ _ (by simp; omega)]
  by_cases h1 : j < pre.length + a
  · rw [if_pos h1, List.append_assoc, List.append_assoc]
    by_cases h2 : j < pre.length
    · rw [List.getElem?_append_left h2, List.getElem?_append_left h2]
    · rw [List.getElem?_append_right (by omega), List.getElem?_append_right (by omega), List.getElem?_append_left (by simp; omega), List.getElem?_take, if_pos (by omega)]
  · rw [if_neg h1]
    by_cases h2 : j < pre.length + a + (ds.drop b).length
    · rw [if_pos h2, List.append_assoc, List.append_assoc, List.getElem?_append_right (l₁ := pre) (by omega), List.getElem?_append_right (by simp; omega), List.getElem?_append_left (by simp at h2 ⊢; omega)]
      congr 1
      simp; omega
    · rw [if_neg h2, List.append_assoc, List.append_assoc, List.getElem?_append_right (l₁ := pre) (by omega), List.getElem?_append_right (l₁ := pre) (by omega), List.getElem?_append_right (by simp; omega), List.getElem?_append_right (by simp at h2 ⊢; omega), List.getElem?_drop]
      congr 1
      simp at h2 ⊢; omega

/-- append(xs[:i], xs[i+1:]...), where nothing but this knows them. -/
theorem OwnA.erase {α : Type} [Flat α] {H : Heap} {v : Value} {xs : List α} {b0 : Nat} {A : Nat → Prop} (h : OwnA A b0 H v xs) {i : Nat} (hi : i < xs.length) {bytes : Nat} (hy : 0 < bytes ∧ bytes ≤ 256) (hl : xs.length ≤ 2 ^ 37) :
    ∃ new v' H', H.cellsOf (cutv v (i + 1) xs.length (sz α)) (sz α) = some new ∧ lenS (cutv v (i + 1) xs.length (sz α)) = xs.length - (i + 1) ∧ H.app (cutv v 0 i (sz α)) (sz α) bytes (xs.length - (i + 1)) new = some (v', H') ∧ Rd H' v' (xs.take i ++ xs.drop (i + 1)) ∧ Keep b0 H H' := by
  have hc : Rd H (cutv v (i + 1) xs.length (sz α)) ((xs.take xs.length).drop (i + 1)) := h.rd.cut (by omega) (by omega)
  have h0 : Rd H (cutv v 0 i (sz α)) ((xs.take i).drop 0) := h.rd.cut (by omega) (by omega)
  simp only [List.take_length, List.drop_zero] at hc h0
  have hls := hc.lenS
  have hls0 := h0.lenS
  simp only [List.length_drop, List.length_take] at hls hls0
  have hcs := hc.cellsOf
  obtain ⟨F, h, h1, h2, h3⟩ := h
  rcases h with ⟨rfl, rfl, rfl⟩ | ⟨b, c, pre, ds, post, rw, Gs, rfl, g1, g2, g3, rfl, g4⟩
  · simp at hi
  · obtain ⟨rfl, rfl, rfl⟩ := g4 rfl
    have hbl := Heap.get_lt g2
    by_cases hk : xs.length - (i + 1) = 0
    · refine ⟨_, cutv (.slice (some ⟨b, pre.length, none⟩) xs.length xs.length) 0 i (sz α), H, hcs, hls, ?_, ?_, .refl _ _⟩
      · rw [hk]; rfl
      · rw [List.drop_of_length_le (by omega), List.append_nil]; exact h0
    · have hds := (encs_flat g3).1
      have hdl := (encs_len g3).1
      obtain ⟨s1, _⟩ := encs_split i g3 (by omega)
      obtain ⟨_, s2⟩ := encs_split (i + 1) g3 (by omega)
      have e2 := (encs_flat s2).1
      have m1 : (i + 1) * sz α ≤ xs.length * sz α := Nat.mul_le_mul_right _ (by omega)
      have m2 : (i + (xs.length - (i + 1))) * sz α ≤ xs.length * sz α := Nat.mul_le_mul_right _ (by omega)
      have m3 : i * sz α ≤ (i + 1) * sz α := Nat.mul_le_mul_right _ (by omega)
      have m4 : (xs.length - (i + 1)) * sz α = xs.length * sz α - (i + 1) * sz α := Nat.sub_mul _ _ _
      have m5 : (i + (xs.length - (i + 1))) * sz α = i * sz α + (xs.length - (i + 1)) * sz α := Nat.add_mul _ _ _
      have m6 : 0 < sz α := pos
      refine ⟨_, .slice (some ⟨b, pre.length, none⟩) (i + (xs.length - (i + 1))) xs.length, H.set b (some ⟨put (pre ++ ds ++ []) (pre.length + i * sz α) (ds.drop ((i + 1) * sz α)), sz α, true⟩), hcs, hls, ?_, ?_, ⟨by simp, fun b' hb' => Heap.get_set_ne ?_⟩⟩
      · rw [← e2]
        unfold Heap.app
        rw [if_neg hk, if_neg (by rw [hls0]; omega)]
        simp only [cutv, g2, Nat.sub_zero, Nat.zero_mul, Nat.add_zero]
        rw [if_pos ⟨trivial, trivial⟩, if_pos (by omega), if_pos (by simp only [List.append_nil, List.length_append]; omega)]
      · refine ⟨_, .inr ⟨b, xs.length, pre, ds.take (i * sz α) ++ ds.drop ((i + 1) * sz α), ds.drop (i * sz α + (ds.length - (i + 1) * sz α)), true, (Gs.take i) ++ (Gs.drop (i + 1)), ?_, ?_, ?_, encs_append ?_ ?_, rfl, by simp⟩⟩
        · congr 1; simp; omega
        · simp; omega
        · rw [Heap.get_set_same hbl, List.append_nil, put_cut _ _ _ _ m3 (by omega)]
        · exact encs_weak (encs_frame s1 fun b' hb' => by rw [(encs_flat s1).2] at hb'; simp at hb')
        · exact encs_weak (encs_frame s2 fun b' hb' => by rw [(encs_flat s2).2] at hb'; simp at hb')
      · rintro rfl
        have := h2 b (by simp)
        omega

theorem OwnA.wr {α : Type} [Flat α] {H : Heap} {v : Value} {xs : List α} {b0 : Nat} {A : Nat → Prop} (h : OwnA A b0 H v xs) {i : Nat} (hi : i < xs.length) {off : Nat} {us : List Value} (ho : off + us.length ≤ fz α) {y : α} (hy : put (fl xs[i]) off us = fl y) :
    ∃ H', H.wr (eP v i off (sz α)) us = some H' ∧ OwnA A b0 H' v (xs.set i y) ∧ Keep b0 H H' := by
  obtain ⟨F, h, h1, h2, h3⟩ := h
  obtain ⟨b, L, R, cs, Fi, rfl, ⟨rfl, rfl⟩, g3⟩ := Sl.wr h h1 hi
  obtain ⟨H', q1, q2, q3, q4⟩ := g3 off us ho
  refine ⟨H', q1, ⟨_, q4 y [] ⟨hy, rfl⟩, h1, h2, h3⟩, by omega, fun b' hb => q3 b' ?_⟩
  rintro rfl
  have := h2 b' (by simp)
  omega

theorem Gent.ofKeep {H H1 H2 : Heap} (h : Gent H H1) (k : Keep H1.length H1 H2) : Gent H H2 := h.trans k.gent

theorem Mov.gentOf {b : Nat} {H H1 H2 : Heap} (h : Gent H H1) (hb : H.length ≤ b) (hm : Mov b H1 H2) : Gent H H2 := ⟨Nat.le_trans h.1 hm.1, fun b' hb' => by rw [hm.2 b' (Nat.lt_of_lt_of_le hb' h.1) (by omega), h.2 b' hb']⟩

set_option maxHeartbeats 4000000 in
theorem drawReplay_ok {bv : Value} {code : List UInt8} {H : Heap} (h : Rd H bv code) (hl : code.length < 2 ^ 40) : ICall pg 26 [bv] H fun res H' => Gent H H' ∧ ∃ vl ve, res = [vl, ve] ∧ (∃ l : List Ins, Rd H' vl l ∧ l.length ≤ 40) ∧ ∃ es : List Event, Rd H' ve es ∧ es.length ≤ 30 := by
  refine go26 rfl fun C hC => ?_
  repeat' (first
    | refine W_seq ?_
    | refine W_block ?_
    | (refine W_ret ?_; simp)
    | (refine W_skip ?_; simp)
    | (refine W_exit ?_; simp)
    | (refine V_regc hC ?_; simp)
    | (refine V_reg hC ?_; simp)
    | (refine (l1New_ok h hl).mono ?_; rintro _ H1 ⟨hg1, hlt1, b, rfl, hb, hc⟩; simp)
    | (refine (l1DrawAny_ok hc).mono ?_; rintro _ H2 ⟨d2, vl, rfl, l, hol, hl1, hl2⟩; simp)
    | (refine (l3DrawEvents_ok d2.1 (hol.rdx hc.lt) (by omega)).mono ?_; rintro _ H3 ⟨d3, ve, rfl, es, ⟨A, hoe⟩, hes⟩; simp)
    | (refine w_split rfl (fun hq => ?_) (fun hq => ?_) <;> (try simp at hq) <;> simp [hq])
    | (refine V_cond rfl (fun hq => ?_) (fun hq => ?_) <;> (try simp at hq))
    | (with_reducible refine And.intro (fun hq => ?_) (fun hq => ?_))
    | (with_reducible intro hq)
    | fail)
  have hg3 := Mov.gentOf hg1 hb (d2.trans d3).2
  have hl3 := (hol.mov hc.lt d3.2).rd
  have hlv := hoe.rd.lenV
  have hcl := hoe.rd.cl
  have hcl2 := hl3.cl
  all_goals (
    (try simp [hlv, hcl, hcl2])
    repeat' (first
      | refine W_seq ?_
      | refine W_block ?_
      | (refine W_ret ?_; simp [hlv, hcl, hcl2])
      | (refine W_skip ?_; simp [hlv, hcl, hcl2])
      | (refine W_exit ?_; simp [hlv, hcl, hcl2])
      | (refine V_regc hC ?_; simp [hlv, hcl, hcl2])
      | (refine V_reg hC ?_; simp [hlv, hcl, hcl2])
      | (refine (l1Below_ok d3.1 _ (by omega)).mono ?_; rintro _ H4 ⟨d4, i, rfl, hi1, hi2⟩; simp [hlv, hcl, hcl2])
      | (refine (l1Below_ok d4.1 8 (by omega)).mono ?_; rintro _ H5 ⟨d5, k, rfl, hk1, hk2⟩; simp [hlv, hcl, hcl2])
      | (refine w_split rfl (fun hq => ?_) (fun hq => ?_) <;> (try simp at hq) <;> simp [hq, hlv, hcl, hcl2])
      | (refine V_cond rfl (fun hq => ?_) (fun hq => ?_) <;> (try simp at hq))
      | (with_reducible refine And.intro (fun hq => ?_) (fun hq => ?_))
      | (with_reducible intro hq)
      | fail))
  case refine_2 => exact ⟨hg3, _, _, ⟨rfl, rfl⟩, ⟨l, hl3, hl2⟩, es, hoe.rd, hes⟩
  all_goals
    have hi : 0 ≤ i ∧ i < es.length := ⟨hi1, hi2 (by omega)⟩
    have hg5 : Gent H H5 := Mov.gentOf hg1 hb (((d2.trans d3).trans d4).trans d5).2
    have hoe5 : OwnA A H2.length H5 ve es := hoe.mov d2.1.lt (d4.trans d5).2
    have hl5 : Rd H5 vl l := (hol.mov hc.lt ((d3.trans d4).trans d5).2).rd
    have hK : ∀ K6 K, Mov b H5 K6 → Keep H2.length K6 K → Gent H K ∧ Rd K vl l := fun K6 K m6 k => by
      refine ⟨⟨Nat.le_trans hg5.1 (Nat.le_trans m6.1 k.1), fun b' hb' => ?_⟩, ?_⟩
      · have := d2.2.1
        have := hg5.1
        rw [k.2 b' (by omega), m6.2 b' (by omega) (by omega), hg5.2 b' hb']
      · obtain ⟨F, hF, hnd, hlow⟩ := hol
        refine ⟨F, (hF.weak.mov (m := false) (b := b) ?_ (((d3.trans d4).trans d5).2.trans m6)).frame fun b' hb' => ?_⟩
        · intro hbF
          have := hlow b hbF
          have := hc.lt
          omega
        · obtain ⟨B, hB⟩ := hF.alive b' hb'
          exact k.2 b' (Heap.get_lt hB)
  case refine_1.refine_2.refine_2.refine_2 => exact ⟨hg5, _, _, ⟨rfl, rfl⟩, ⟨l, hl5, hl2⟩, es, hoe5.rd, hes⟩
  case refine_1.refine_1 =>
    refine (l1Below_ok d5.1 _ (by omega)).mono ?_
    rintro _ H6 ⟨d6, x, rfl, _, _⟩
    have hoe6 := hoe5.mov d2.1.lt d6.2
    have e1 := hoe6.rd.elemPI hi .i64
    have e2 := hoe6.rd.addP (i := i.toNat) (by omega) 0 0 3
    obtain ⟨H7, w1, w2, w3⟩ := hoe6.wr (i := i.toNat) (by omega) (off := 0) (us := [.int .i64 x]) (by simp [fz]) (y := { es[i.toNat] with kind := x }) (by simp [fl])
    simp [sz, fz] at e1 w1 e2
    all_goals (
      (try simp [e1, e2, w1, hcl, hcl2])
      repeat' (first
        | refine W_seq ?_
        | refine W_block ?_
        | (refine W_ret ?_; simp [e1, e2, w1, hcl, hcl2])
        | (refine W_skip ?_; simp [e1, e2, w1, hcl, hcl2])
        | (refine W_exit ?_; simp [e1, e2, w1, hcl, hcl2])
        | (refine V_regc hC ?_; simp [e1, e2, w1, hcl, hcl2])
        | (refine V_reg hC ?_; simp [e1, e2, w1, hcl, hcl2])
        | (refine w_split rfl (fun hq => ?_) (fun hq => ?_) <;> (try simp at hq) <;> simp [hq, e1, e2, w1, hcl, hcl2])
        | (refine V_cond rfl (fun hq => ?_) (fun hq => ?_) <;> (try simp at hq))
        | (with_reducible refine And.intro (fun hq => ?_) (fun hq => ?_))
        | (with_reducible intro hq)
        | fail))
    exact ⟨(hK _ _ d6.2 w3).1, _, _, ⟨rfl, rfl⟩, ⟨l, (hK _ _ d6.2 w3).2, hl2⟩, _, w2.rd, by simpa using hes⟩
  case refine_1.refine_2.refine_1 =>
    refine (l1Below_ok d5.1 _ (by omega)).mono ?_
    rintro _ H6 ⟨d6, x, rfl, _, _⟩
    have hoe6 := hoe5.mov d2.1.lt d6.2
    have e1 := hoe6.rd.elemPI hi .i64
    have e2 := hoe6.rd.addP (i := i.toNat) (by omega) 0 2 3
    obtain ⟨H7, w1, w2, w3⟩ := hoe6.wr (i := i.toNat) (by omega) (off := 2) (us := [.int .i64 x]) (by simp [fz]) (y := { es[i.toNat] with v := x }) (by simp [fl])
    simp [sz, fz] at e1 w1 e2
    all_goals (
      (try simp [e1, e2, w1, hcl, hcl2])
      repeat' (first
        | refine W_seq ?_
        | refine W_block ?_
        | (refine W_ret ?_; simp [e1, e2, w1, hcl, hcl2])
        | (refine W_skip ?_; simp [e1, e2, w1, hcl, hcl2])
        | (refine W_exit ?_; simp [e1, e2, w1, hcl, hcl2])
        | (refine V_regc hC ?_; simp [e1, e2, w1, hcl, hcl2])
        | (refine V_reg hC ?_; simp [e1, e2, w1, hcl, hcl2])
        | (refine w_split rfl (fun hq => ?_) (fun hq => ?_) <;> (try simp at hq) <;> simp [hq, e1, e2, w1, hcl, hcl2])
        | (refine V_cond rfl (fun hq => ?_) (fun hq => ?_) <;> (try simp at hq))
        | (with_reducible refine And.intro (fun hq => ?_) (fun hq => ?_))
        | (with_reducible intro hq)
        | fail))
    exact ⟨(hK _ _ d6.2 w3).1, _, _, ⟨rfl, rfl⟩, ⟨l, (hK _ _ d6.2 w3).2, hl2⟩, _, w2.rd, by simpa using hes⟩
  case refine_1.refine_2.refine_2.refine_1 =>
    obtain ⟨new, v', H7, w1, w2, w3, w4, w5⟩ := hoe5.erase (i := i.toNat) (by omega) (bytes := 24) (by omega) (by omega)
    have e1 := hoe5.rd.cutS (lo := 0) (hi := i.toNat) (by omega) (by omega) (l := none) (u := some i) rfl (by simp; omega)
    have aw : IntKind.i64.wrap (i + 1) = i + 1 := wrap64 (by omega)
    have e2 := hoe5.rd.cutS (lo := i.toNat + 1) (hi := es.length) (by omega) (by omega) (l := some (i + 1)) (u := none) (by simp; omega) rfl
    have e3 := w4.cl
    have e4 := hoe5.rd.szOk
    simp [sz, fz] at w1 w2 w3 e1 e2 e4
    all_goals (
      (try simp [e1, e2, e4, w1, w2, w3, e3, aw, hcl, hcl2])
      repeat' (first
        | refine W_seq ?_
        | refine W_block ?_
        | (refine W_ret ?_; simp [e1, e2, e4, w1, w2, w3, e3, aw, hcl, hcl2])
        | (refine W_skip ?_; simp [e1, e2, e4, w1, w2, w3, e3, aw, hcl, hcl2])
        | (refine W_exit ?_; simp [e1, e2, e4, w1, w2, w3, e3, aw, hcl, hcl2])
        | (refine V_regc hC ?_; simp [e1, e2, e4, w1, w2, w3, e3, aw, hcl, hcl2])
        | (refine V_reg hC ?_; simp [e1, e2, e4, w1, w2, w3, e3, aw, hcl, hcl2])
        | (refine w_split rfl (fun hq => ?_) (fun hq => ?_) <;> (try simp at hq) <;> simp [hq, e1, e2, e4, w1, w2, w3, e3, aw, hcl, hcl2])
        | (refine V_cond rfl (fun hq => ?_) (fun hq => ?_) <;> (try simp at hq))
        | (with_reducible refine And.intro (fun hq => ?_) (fun hq => ?_))
        | (with_reducible intro hq)
        | fail))
    exact ⟨(hK _ _ (.refl _ _) w5).1, _, _, ⟨rfl, rfl⟩, ⟨l, (hK _ _ (.refl _ _) w5).2, hl2⟩, _, w4, by simp; omega⟩

end Go.Proofs.Ytpnbojehfngigaa.IM

/- KeepAll, DrawRestore. -/
namespace Go.Proofs.Ytpnbojehfngigaa.IM
open Go Go.Proofs Enc Flat
set_option linter.unusedVariables false
set_option linter.unusedSimpArgs false

set_option maxHeartbeats 4000000 in
theorem keepAll_ok {l : List Ins} {es : List Event} {vl ve : Value} {H : Heap} (hl : Rd H vl l) (he : Rd H ve es) (hll : l.length < 2 ^ 40) (hes : es.length ≤ 200) :
    ICall pg 28 [vl, ve] H fun res H' => Gent H H' ∧ ∃ v, res = [v] ∧ ∃ keep : List Kept, OwnA (fun _ => False) H.length H' v keep ∧ keep.length ≤ 400 := by
  refine go28 rfl fun C hC => ?_
  repeat' (first
    | refine W_seq ?_
    | refine W_block ?_
    | (refine W_ret ?_; simp)
    | (refine W_skip ?_; simp)
    | (refine W_exit ?_; simp)
    | (refine V_regc hC ?_; simp)
    | (refine V_reg hC ?_; simp)
    | (refine (sReplay_ok (hl.gent (gent_add' _ _)) (he.gent (gent_add' _ _)) hll (by omega)).mono ?_; rintro _ H1 ⟨hg1, r1, o1, rfl, hw1⟩; simp only [stV])
    | (refine w_split rfl (fun hq => ?_) (fun hq => ?_) <;> (try simp at hq) <;> simp [hq])
    | (refine V_cond rfl (fun hq => ?_) (fun hq => ?_) <;> (try simp at hq))
    | (with_reducible refine And.intro (fun hq => ?_) (fun hq => ?_))
    | (with_reducible intro hq)
    | fail)
  obtain ⟨⟨p1, g1, t1, c1⟩, hS⟩ : ∃ s, s = orZero (replayO l es) := ⟨_, rfl⟩
  rw [← hS]
  have hg0 : Gent H H1 := (gent_add' _ _).trans hg1
  all_goals (
    (try simp)
    repeat' (first
      | refine W_seq ?_
      | refine W_block ?_
      | (refine W_ret ?_; simp)
      | (refine W_skip ?_; simp)
      | (refine W_exit ?_; simp)
      | (refine V_regc hC ?_; simp)
      | (refine V_reg hC ?_; simp)
      | (refine w_split rfl (fun hq => ?_) (fun hq => ?_) <;> (try simp at hq) <;> simp [hq])
      | (refine V_cond rfl (fun hq => ?_) (fun hq => ?_) <;> (try simp at hq))
      | (with_reducible refine And.intro (fun hq => ?_) (fun hq => ?_))
      | (with_reducible intro hq)
      | fail))
  have h0 : OwnA (fun _ => False) H.length H1 (.slice (some ⟨H.length, 0, none⟩) 0 0) ([] : List Kept) := by
    refine OwnA.gent ⟨_, Sl.laid (H := H) (m := true) (ds := []) (Gs := []) (xs := ([] : List Kept)) ⟨rfl, rfl⟩, by simp, by simp, by simp⟩ hg1
  obtain ⟨ok, hok⟩ : ∃ k, k = (replayO l es).isSome := ⟨_, rfl⟩
  rw [← hok]
  have hlv := he.lenV
  refine W_count 400 (fun i st => ∃ (v : Value) (keep : List Kept) (a1 : Option Value) (B : List Value) (K : Heap), st = ⟨[some vl, some ve, some (.slice none 0 0), some v, some (.bool ok), some (.int .i64 (8 * i : Nat))], [[.int .i64 p1, r1, o1, .int .i64 c1], B], K⟩ ∧ Gent H K ∧ OwnA (fun _ => False) H.length K v keep ∧ keep.length = i ∧ 8 * i ≤ es.length + 8)
    ⟨_, [], none, [], H1, rfl, hg0, h0, rfl, by omega⟩ ?_
  rintro i st ⟨v, keep, a1, B, K, rfl, hg, hv, hk, hi⟩
  have hcl := hv.rd.cl
  have hlK := hl.gent hg
  have heK := he.gent hg
  repeat' (first
    | refine W_seq ?_
    | refine W_block ?_
    | (refine W_ret ?_; simp [hlv, hcl])
    | (refine W_skip ?_; simp [hlv, hcl])
    | (refine W_exit ?_; simp [hlv, hcl])
    | (refine V_regc hC ?_; simp [hlv, hcl])
    | (refine V_reg hC ?_; simp [hlv, hcl])
    | (refine w_split rfl (fun hq => ?_) (fun hq => ?_) <;> (try simp at hq) <;> simp [hq, hlv, hcl])
    | (refine V_cond rfl (fun hq => ?_) (fun hq => ?_) <;> (try simp at hq))
    | (with_reducible refine And.intro (fun hq => ?_) (fun hq => ?_))
    | (with_reducible intro hq)
    | fail)
  case refine_2 => exact ⟨hg, keep, hv, by omega⟩
  case refine_1.refine_2 => exact ⟨hg, keep, hv, by omega⟩
  have hcut : IM.cutS ve none (some (8 * (i : Int))) 3 = some (cutv ve 0 (8 * i) 3) := he.cutS (lo := 0) (hi := 8 * i) (by omega) (by omega) rfl (by simp)
  have hsz : K.szOk ve 3 = true := heK.szOk
  have hec : Rd K (cutv ve 0 (8 * i) 3) (es.take (8 * i)) := by
    have := heK.cut (lo := 0) (hi := 8 * i) (by omega) (by omega)
    simpa [sz, fz] using this
  all_goals (
    (try simp [hcut, hsz])
    repeat' (first
      | refine W_seq ?_
      | refine W_block ?_
      | (refine W_ret ?_; simp [hcut, hsz])
      | (refine W_skip ?_; simp [hcut, hsz])
      | (refine W_exit ?_; simp [hcut, hsz])
      | (refine V_regc hC ?_; simp [hcut, hsz])
      | (refine V_reg hC ?_; simp [hcut, hsz])
      | (refine (sReplay_ok hlK hec hll (by simp; omega)).mono ?_; rintro _ H2 ⟨hg2, r2, o2, rfl, hw2⟩; simp only [stV])
      | (refine w_split rfl (fun hq => ?_) (fun hq => ?_) <;> (try simp at hq) <;> simp [hq, hcut, hsz])
      | (refine V_cond rfl (fun hq => ?_) (fun hq => ?_) <;> (try simp at hq))
      | (with_reducible refine And.intro (fun hq => ?_) (fun hq => ?_))
      | (with_reducible intro hq)
      | fail))
  obtain ⟨⟨p2, g2, t2, c2⟩, hS2⟩ : ∃ s, s = orZero (replayO l (es.take (8 * i))) := ⟨_, rfl⟩
  rw [← hS2] at hw2 ⊢
  obtain ⟨F1, F2, f1, f2, f3, f4⟩ := hw2
  simp only at f1 f2 ⊢
  obtain ⟨x1, v', H3, x2, x3, x4, _⟩ := (hv.gent hg2).app (by simp) (by have := hg.1; have := hg2.1; omega) (y := (⟨(8 * i : Nat), ⟨p2, g2, t2, c2⟩⟩ : Kept)) (cs := [.int .i64 (8 * i : Nat), .int .i64 p2, r2, o2, .int .i64 c2]) (G := F1 ++ F2) ⟨_, rfl, r2, o2, F1, F2, rfl, f1, f2, rfl⟩ (fun b hb => ⟨by have := f4 b hb; have := hg.1; omega, by simp, fun e => by have := hv.hd_lt e; have := f4 b hb; omega⟩) (bytes := 72) (by omega) (by omega)
  simp [sz] at x1 x2
  have x5 := x3.rd.cl
  all_goals (
    (try simp [x1, x2, x5])
    repeat' (first
      | refine W_seq ?_
      | refine W_block ?_
      | (refine W_ret ?_; simp [x1, x2, x5])
      | (refine W_skip ?_; simp [x1, x2, x5])
      | (refine W_exit ?_; simp [x1, x2, x5])
      | (refine V_regc hC ?_; simp [x1, x2, x5])
      | (refine V_reg hC ?_; simp [x1, x2, x5])
      | (refine w_split rfl (fun hq => ?_) (fun hq => ?_) <;> (try simp at hq) <;> simp [hq, x1, x2, x5])
      | (refine V_cond rfl (fun hq => ?_) (fun hq => ?_) <;> (try simp at hq))
      | (with_reducible refine And.intro (fun hq => ?_) (fun hq => ?_))
      | (with_reducible intro hq)
      | fail))
  exact ⟨by omega, _, _, _, _, ⟨⟨rfl, by rw [wrap64 (by omega)]; omega⟩, rfl, rfl⟩, ⟨Nat.le_trans (hg.trans hg2).1 x4.1, fun b' hb' => by rw [x4.2 b' hb', (hg.trans hg2).2 b' hb']⟩, x3, by simp [hk], by omega⟩

theorem OwnA.rdm {b : Nat} {α : Type} [Enc α] {H : Heap} {v : Value} {xs : List α} {b0 : Nat} {A : Nat → Prop} (h : OwnA A b0 H v xs) (hb : b < b0) : RdX b H v xs := by
  obtain ⟨F, h, h1, h2, h3⟩ := h
  exact ⟨F, h.weak, fun hf => by have := h2 b hf; omega⟩


section
variable {α : Type} [Enc α] {H H' : Heap} {v : Value} {xs : List α} {b b0 : Nat} {A : Nat → Prop}

theorem Rd.rdx (h : Rd H v xs) (hb : H.length ≤ b) : RdX b H v xs := by
  obtain ⟨F, h⟩ := h
  exact ⟨F, h, fun hf => by obtain ⟨B, hB⟩ := h.alive b hf; have := Heap.get_lt hB; omega⟩

theorem RdX.cut (h : RdX b H v xs) {lo hi : Nat} (h1 : lo ≤ hi) (h2 : hi ≤ xs.length) : RdX b H (cutv v lo hi (sz α)) ((xs.take hi).drop lo) := by
  obtain ⟨F, h, hb⟩ := h
  obtain ⟨F', h', hs⟩ := h.cut h1 h2
  exact ⟨F', h', fun hf => hb (hs b hf)⟩
end

/-- One of the states kept has another place. -/
theorem keptWr {H : Heap} {v : Value} {keep : List Kept} {b0 : Nat} {A : Nat → Prop} (h : OwnA A b0 H v keep) {i : Nat} (hi : i < keep.length) (x : Int) :
    ∃ H', H.wr (eP v i 1 5) [.int .i64 x] = some H' ∧ OwnA A b0 H' v (keep.set i { keep[i] with s := { keep[i].s with pc := x } }) ∧ Keep b0 H H' := by
  obtain ⟨F, h, h1, h2, h3⟩ := h
  obtain ⟨b, L, R, cs, Fi, rfl, ⟨cs', rfl, r, o, F1, F2, rfl, k1, k2, rfl⟩, g3⟩ := Sl.wr h h1 hi
  obtain ⟨H', q1, q2, q3, q4⟩ := g3 1 [.int .i64 x] (by simp [sz])
  have hf : ∀ b' ∈ F1 ++ F2, H'.get b' = H.get b' := fun b' hb' => q3 b' (by
    rintro rfl
    exact h1 b' (by simp only [List.tail_cons, List.mem_append]; exact .inl (.inr (by simpa using hb'))) rfl)
  refine ⟨H', q1, ⟨_, q4 { keep[i] with s := { keep[i].s with pc := x } } (F1 ++ F2) ⟨_, rfl, r, o, F1, F2, rfl, k1.frame fun b' hb' => hf b' (by simp [hb']), k2.frame fun b' hb' => hf b' (by simp [hb']), rfl⟩, h1, h2, h3⟩, by omega, fun b' hb => q3 b' ?_⟩
  rintro rfl
  have := h2 b' (by simp)
  omega

/-- The first one, once more. -/
theorem keptApp {H : Heap} {v : Value} {keep : List Kept} {b0 : Nat} (h : OwnA (fun _ => False) b0 H v keep) (hb : b0 ≤ H.length) (hk : 0 < keep.length) (hl : keep.length ≤ 2 ^ 30) :
    ∃ cs v' H', H.rd (eP v 0 0 5) 5 = some cs ∧ cs.length = 5 ∧ (H.add ⟨cs, 5, true⟩).cellsOf (.slice (some ⟨H.length, 0, none⟩) 1 1) 5 = some cs ∧
      (H.add ⟨cs, 5, true⟩).app v 5 72 1 cs = some (v', H') ∧ OwnA (fun _ => False) b0 H' v' (keep ++ [keep[0]]) ∧ Keep b0 H H' := by
  have h' := h
  obtain ⟨F, hs, h1, h2, h3⟩ := h
  rcases hs with ⟨_, rfl, _⟩ | ⟨b, c, pre, ds, post, rw, Gs, rfl, g1, g2, g3, rfl, g4⟩
  · simp at hk
  · obtain ⟨cs, Fi, e1, e2, e3, e4⟩ := encs_get g3 hk
    have hFi : ∀ b' ∈ Fi, b' ∈ Gs.flatten := fun b' hb' => List.mem_flatten.2 ⟨Fi, List.mem_of_getElem? e3, hb'⟩
    obtain ⟨x1, v', H', x2, x3, x4, _⟩ := h'.app (by simp) hb (y := keep[0]) (cs := cs) (G := Fi) e1 (fun b' hb' => ⟨h2 b' (List.mem_cons_of_mem _ (hFi b' hb')), by simp, fun e => h1 b' (hFi b' hb') (by simpa [IM.hd] using e)⟩) (bytes := 72) (by omega) (by omega)
    refine ⟨cs, v', H', ?_, len e1, x1, x2, x3, x4⟩
    simp only [sz] at e2 e4
    simp only [Nat.zero_mul, List.drop_zero, Nat.zero_add] at e2 e4
    simp only [Heap.rd, eP, g2, Nat.zero_mul, Nat.add_zero]
    rw [if_pos (by simp; omega), List.append_assoc, List.drop_left, List.take_append_of_le_length e4, e2]

set_option maxHeartbeats 4000000 in
theorem l10Draw_ok {bv : Value} {code : List UInt8} {H : Heap} (h : Rd H bv code) (hl : code.length < 2 ^ 40) : ICall pg 13 [bv] H fun res H' => Gent H H' ∧ ∃ vl ve vk, (∃ x : Int, res = [vl, ve, vk, .int .i64 x]) ∧ (∃ l : List Ins, Rd H' vl l ∧ l.length ≤ 40) ∧ (∃ es : List Event, Rd H' ve es ∧ es.length ≤ 30) ∧ ∃ keep : List Kept, Rd H' vk keep ∧ keep.length ≤ 500 := by
  refine go13 rfl fun C hC => ?_
  repeat' (first
    | refine W_seq ?_
    | refine W_block ?_
    | (refine W_ret ?_; simp)
    | (refine W_skip ?_; simp)
    | (refine W_exit ?_; simp)
    | (refine V_regc hC ?_; simp)
    | (refine V_reg hC ?_; simp)
    | (refine (drawReplay_ok h hl).mono ?_; rintro _ H1 ⟨hg1, vl, ve, rfl, ⟨l, hl1, hl2⟩, es, he1, he2⟩; simp)
    | (refine (l1New_ok (h.gent hg1) hl).mono ?_; rintro _ H2 ⟨hg2, hlt2, b, rfl, hb, hc⟩; simp)
    | (refine (keepAll_ok (hl1.gent hg2) (he1.gent hg2) (by omega) (by omega)).mono ?_; rintro _ H3 ⟨hg3, vk, rfl, keep, hk, hkl⟩; simp)
    | (refine w_split rfl (fun hq => ?_) (fun hq => ?_) <;> (try simp at hq) <;> simp [hq])
    | (refine V_cond rfl (fun hq => ?_) (fun hq => ?_) <;> (try simp at hq))
    | (with_reducible refine And.intro (fun hq => ?_) (fun hq => ?_))
    | (with_reducible intro hq)
    | fail)
  have tail : ∀ (K : Heap) (vk : Value) (keep : List Kept) (a1 a2 : Option Value), Drew b bv code H2 K → RdX b K vk keep → keep.length ≤ 500 →
      W pg C c13_19 ⟨[some bv, some (.slice none 0 0), some (.slice none 0 0), some (.slice none 0 0), some (.int .i64 0), some vl, some ve, some (cp b), some vk, a1, a2], [], K⟩ (Fin [.v 1 2, .v 2 3, .v 3 4, .v 4 5] fun res H' =>
          Gent H H' ∧ ∃ vl ve vk, (∃ x : Int, res = [vl, ve, vk, .int .i64 x]) ∧ (∃ l : List Ins, Rd H' vl l ∧ l.length ≤ 40) ∧ (∃ es : List Event, Rd H' ve es ∧ es.length ≤ 30) ∧ ∃ keep : List Kept, Rd H' vk keep ∧ keep.length ≤ 500) := by
    intro K vk keep a1 a2 hd hk hkl
    have hlX : RdX b K vl l := ((hl1.rdx hb).mov hg2.mov).mov hd.2
    have heX : RdX b K ve es := ((he1.rdx hb).mov hg2.mov).mov hd.2
    have hlv := heX.rd.lenV
    have aw : IntKind.i64.wrap ((es.length : Int) + 1) = (es.length : Int) + 1 := wrap64 (by omega)
    have c1 := hlX.rd.cl
    have c2 := heX.rd.cl
    have c3 := hk.rd.cl
    repeat' (first
      | refine W_seq ?_
      | refine W_block ?_
      | (refine W_ret ?_; simp [hlv, aw, c1, c2, c3])
      | (refine W_skip ?_; simp [hlv, aw, c1, c2, c3])
      | (refine W_exit ?_; simp [hlv, aw, c1, c2, c3])
      | (refine V_regc hC ?_; simp [hlv, aw, c1, c2, c3])
      | (refine V_reg hC ?_; simp [hlv, aw, c1, c2, c3])
      | (refine (l1Below_ok hd.1 _ (by omega)).mono ?_; rintro _ H4 ⟨d4, x, rfl, hx1, hx2⟩; simp [hlv, aw, c1, c2, c3])
      | (refine (l1Below_ok d4.1 20 (by omega)).mono ?_; rintro _ H5 ⟨d5, y, rfl, hy1, hy2⟩; simp [hlv, aw, c1, c2, c3])
      | (refine w_split rfl (fun hq => ?_) (fun hq => ?_) <;> (try simp at hq) <;> simp [hq, hlv, aw, c1, c2, c3])
      | (refine V_cond rfl (fun hq => ?_) (fun hq => ?_) <;> (try simp at hq))
      | (with_reducible refine And.intro (fun hq => ?_) (fun hq => ?_))
      | (with_reducible intro hq)
      | fail)
    exact ⟨Mov.gentOf (hg1.trans hg2) (by have := hg1.1; omega) ((hd.trans d4).trans d5).2, _, _, _, ⟨rfl, rfl, rfl⟩, ⟨l, (hlX.mov (d4.trans d5).2).rd, hl2⟩, ⟨es, (heX.mov (d4.trans d5).2).rd, he2⟩, keep, (hk.mov (d4.trans d5).2).rd, hkl⟩
  have hlv := hk.rd.lenV
  have hlv' := hk.rd.lenS
  have d3 : Drew b bv code H2 H3 := ⟨hc.gent hg3, hg3.mov⟩
  have hkX : RdX b H3 vk keep := hk.rdm hc.lt
  all_goals (
    (try simp [hlv])
    repeat' (first
      | (with_reducible refine tail _ _ keep _ _ ?_ ?_ ?_)
      | refine W_seq ?_
      | refine W_block ?_
      | (refine W_ret ?_; simp [hlv])
      | (refine W_skip ?_; simp [hlv])
      | (refine W_exit ?_; simp [hlv])
      | (refine V_regc hC ?_; simp [hlv])
      | (refine V_reg hC ?_; simp [hlv])
      | (refine (l1Below_ok d3.1 8 (by omega)).mono ?_; rintro _ H4 ⟨d4, k, rfl, hk1, hk2⟩; simp [hlv])
      | (refine (l1Below_ok d4.1 _ (by omega)).mono ?_; rintro _ H5 ⟨d5, i, rfl, hi1, hi2⟩; simp [hlv])
      | (refine (l1Below_ok d5.1 _ (by omega)).mono ?_; rintro _ H6 ⟨d6, x, rfl, hx1, hx2⟩; simp [hlv])
      | (refine w_split rfl (fun hq => ?_) (fun hq => ?_) <;> (try simp at hq) <;> simp [hq, hlv])
      | (refine V_cond rfl (fun hq => ?_) (fun hq => ?_) <;> (try simp at hq))
      | (with_reducible refine And.intro (fun hq => ?_) (fun hq => ?_))
      | (with_reducible intro hq)
      | fail))
  · have hi : 0 ≤ i ∧ i < keep.length := ⟨hi1, hi2 (by omega)⟩
    have d := (d3.trans d4).trans d5
    have hX := hkX.mov (d4.trans d5).2
    have aw : IntKind.i64.wrap (1 + i) = 1 + i := wrap64 (by omega)
    have e1 := hX.rd.cutS (lo := 0) (hi := (1 + i).toNat) (by omega) (by omega) (l := none) (u := some (1 + i)) rfl (by simp; omega)
    have e2 := hX.rd.szOk
    have hX2 := hX.cut (lo := 0) (hi := (1 + i).toNat) (by omega) (by omega)
    have e3 := hX2.rd.cl
    simp only [sz] at e1 e2 e3 hX2
    all_goals (
      (try simp [aw, e1, e2, e3])
      repeat' (first
        | (with_reducible refine tail _ _ _ _ _ d hX2 (by simp; omega))
        | refine W_seq ?_
        | refine W_block ?_
        | (refine W_ret ?_; simp [aw, e1, e2, e3])
        | (refine W_skip ?_; simp [aw, e1, e2, e3])
        | (refine W_exit ?_; simp [aw, e1, e2, e3])
        | (refine V_regc hC ?_; simp [aw, e1, e2, e3])
        | (refine V_reg hC ?_; simp [aw, e1, e2, e3])
        | (refine w_split rfl (fun hq => ?_) (fun hq => ?_) <;> (try simp at hq) <;> simp [hq, aw, e1, e2, e3])
        | (refine V_cond rfl (fun hq => ?_) (fun hq => ?_) <;> (try simp at hq))
        | (with_reducible refine And.intro (fun hq => ?_) (fun hq => ?_))
        | (with_reducible intro hq)
        | fail))
  · have hi : 0 ≤ i ∧ i < keep.length := ⟨hi1, hi2 (by omega)⟩
    have d := (d3.trans d4).trans (d5.trans d6)
    have hk6 := hk.mov hc.lt (d4.trans (d5.trans d6)).2
    have e1 := hk6.rd.elemPI hi .i64
    have e2 := hk6.rd.addP (i := i.toNat) (by omega) 0 1 5
    have e3 := hk6.rd.addP (i := i.toNat) (by omega) 1 0 5
    obtain ⟨H7, w1, w2, w3⟩ := keptWr hk6 (i := i.toNat) (by omega) x
    simp [sz] at e1 e2 e3
    all_goals (
      (try simp [e1, e2, e3, w1])
      repeat' (first
        | (with_reducible refine tail _ _ _ _ _ (d.keep hc w3) (w2.rdm hc.lt) (by simp; omega))
        | refine W_seq ?_
        | refine W_block ?_
        | (refine W_ret ?_; simp [e1, e2, e3, w1])
        | (refine W_skip ?_; simp [e1, e2, e3, w1])
        | (refine W_exit ?_; simp [e1, e2, e3, w1])
        | (refine V_regc hC ?_; simp [e1, e2, e3, w1])
        | (refine V_reg hC ?_; simp [e1, e2, e3, w1])
        | (refine w_split rfl (fun hq => ?_) (fun hq => ?_) <;> (try simp at hq) <;> simp [hq, e1, e2, e3, w1])
        | (refine V_cond rfl (fun hq => ?_) (fun hq => ?_) <;> (try simp at hq))
        | (with_reducible refine And.intro (fun hq => ?_) (fun hq => ?_))
        | (with_reducible intro hq)
        | fail))
  · have d := d3.trans d4
    have hX := hkX.mov d4.2
    have e1 := hX.rd.cutS (lo := 1) (hi := keep.length) (by omega) (by omega) (l := some 1) (u := none) rfl rfl
    have e2 := hX.rd.szOk
    have hX2 := hX.cut (lo := 1) (hi := keep.length) (by omega) (by omega)
    have e3 := hX2.rd.cl
    simp only [sz] at e1 e2 e3 hX2
    all_goals (
      (try simp [e1, e2, e3])
      repeat' (first
        | (with_reducible refine tail _ _ _ _ _ d hX2 (by simp; omega))
        | refine W_seq ?_
        | refine W_block ?_
        | (refine W_ret ?_; simp [e1, e2, e3])
        | (refine W_skip ?_; simp [e1, e2, e3])
        | (refine W_exit ?_; simp [e1, e2, e3])
        | (refine V_regc hC ?_; simp [e1, e2, e3])
        | (refine V_reg hC ?_; simp [e1, e2, e3])
        | (refine w_split rfl (fun hq => ?_) (fun hq => ?_) <;> (try simp at hq) <;> simp [hq, e1, e2, e3])
        | (refine V_cond rfl (fun hq => ?_) (fun hq => ?_) <;> (try simp at hq))
        | (with_reducible refine And.intro (fun hq => ?_) (fun hq => ?_))
        | (with_reducible intro hq)
        | fail))
  · have d := d3.trans d4
    have hk4 := hk.mov hc.lt d4.2
    have e1 := hk4.rd.elemP (i := 0) (by omega) .i64
    obtain ⟨cs, v', H7, w1, w2, w3, w4, w5, w6⟩ := keptApp hk4 d.2.1 (by omega) (by omega)
    obtain ⟨c1, c2, c3, c4, c5, rfl⟩ : ∃ c1 c2 c3 c4 c5, cs = [c1, c2, c3, c4, c5] := by
      match cs, w2 with
      | [c1, c2, c3, c4, c5], _ => exact ⟨_, _, _, _, _, rfl⟩
    have e3 := w5.rd.cl
    simp [sz] at e1
    all_goals (
      (try simp [e1, e3, w1, w3, w4])
      repeat' (first
        | (with_reducible refine tail _ _ _ _ _ (d.keep hc w6) (w5.rdm hc.lt) (by simp; omega))
        | refine W_seq ?_
        | refine W_block ?_
        | (refine W_ret ?_; simp [e1, e3, w1, w3, w4])
        | (refine W_skip ?_; simp [e1, e3, w1, w3, w4])
        | (refine W_exit ?_; simp [e1, e3, w1, w3, w4])
        | (refine V_regc hC ?_; simp [e1, e3, w1, w3, w4])
        | (refine V_reg hC ?_; simp [e1, e3, w1, w3, w4])
        | (refine w_split rfl (fun hq => ?_) (fun hq => ?_) <;> (try simp at hq) <;> simp [hq, e1, e3, w1, w3, w4])
        | (refine V_cond rfl (fun hq => ?_) (fun hq => ?_) <;> (try simp at hq))
        | (with_reducible refine And.intro (fun hq => ?_) (fun hq => ?_))
        | (with_reducible intro hq)
        | fail))
  · exact d3.trans d4
  · exact hkX.mov d4.2
  · omega
  · exact d3
  · exact hkX
  · omega

theorem drawRestore_ok {bv : Value} {code : List UInt8} {H : Heap} (h : Rd H bv code) (hl : code.length < 2 ^ 40) : ICall pg 5 [bv] H fun res H' => Gent H H' ∧ ∃ vl ve vk, (∃ x : Int, res = [vl, ve, vk, .int .i64 x]) ∧ (∃ l : List Ins, Rd H' vl l ∧ l.length ≤ 40) ∧ (∃ es : List Event, Rd H' ve es ∧ es.length ≤ 30) ∧ ∃ keep : List Kept, Rd H' vk keep ∧ keep.length ≤ 500 := by
  refine go5 rfl fun C hC => ?_
  repeat' (first
    | refine W_seq ?_
    | refine W_block ?_
    | (refine W_ret ?_; simp)
    | (refine W_skip ?_; simp)
    | (refine W_exit ?_; simp)
    | (refine V_regc hC ?_; simp)
    | (refine V_reg hC ?_; simp)
    | (refine (l10Draw_ok h hl).mono ?_; rintro _ H1 ⟨hg1, vl, ve, vk, ⟨n, rfl⟩, ⟨l, hl1, hl2⟩, ⟨es, he1, he2⟩, keep, hk1, hk2⟩)
    | (refine w_split rfl (fun hq => ?_) (fun hq => ?_) <;> (try simp at hq) <;> simp [hq])
    | (refine V_cond rfl (fun hq => ?_) (fun hq => ?_) <;> (try simp at hq))
    | (with_reducible refine And.intro (fun hq => ?_) (fun hq => ?_))
    | (with_reducible intro hq)
    | fail)
  have c1 := hl1.cl
  have c2 := he1.cl
  have c3 := hk1.cl
  all_goals (
    (try simp [c1, c2, c3])
    repeat' (first
      | refine W_seq ?_
      | refine W_block ?_
      | (refine W_ret ?_; simp [c1, c2, c3])
      | (refine W_skip ?_; simp [c1, c2, c3])
      | (refine W_exit ?_; simp [c1, c2, c3])
      | (refine V_regc hC ?_; simp [c1, c2, c3])
      | (refine V_reg hC ?_; simp [c1, c2, c3])
      | (refine w_split rfl (fun hq => ?_) (fun hq => ?_) <;> (try simp at hq) <;> simp [hq, c1, c2, c3])
      | (refine V_cond rfl (fun hq => ?_) (fun hq => ?_) <;> (try simp at hq))
      | (with_reducible refine And.intro (fun hq => ?_) (fun hq => ?_))
      | (with_reducible intro hq)
      | fail))
  exact ⟨hg1, _, _, _, ⟨rfl, rfl, rfl⟩, ⟨l, hl1, hl2⟩, ⟨es, he1, he2⟩, keep, hk1, hk2⟩

end Go.Proofs.Ytpnbojehfngigaa.IM

/- The law FnRestore: its walk. -/
namespace Go.Proofs.Ytpnbojehfngigaa.IM
open Go Go.Proofs Enc Flat
set_option linter.unusedVariables false
set_option linter.unusedSimpArgs false

theorem boolEq {a b : Bool} {p : Prop} (h1 : a = true ↔ p) (h2 : b = true ↔ p) : a = b := by
  rw [Bool.eq_iff_iff, h1, h2]

theorem cl_four {v : Value} (h : (cl v).length = 4) : ∃ c1 c2 c3 c4, cl v = [c1, c2, c3, c4] := by
  match hq : cl v, h with
  | [c1, c2, c3, c4], _ => exact ⟨_, _, _, _, rfl⟩

set_option maxHeartbeats 4000000 in
theorem fnRestore_ok {bv : Value} {code : List UInt8} {H : Heap} (h : Rd H bv code) : ICall pg 3 [bv] H (Ret H [.bool true]) := by
  refine go3 rfl fun C hC => ?_
  by_cases hbig : 1048576 < code.length
  · repeat' (first
      | refine W_seq ?_
      | refine W_block ?_
      | (refine W_ret ?_; simp [Ret, hbig])
      | (refine W_skip ?_; simp [Ret, hbig])
      | (refine W_exit ?_; simp [Ret, hbig])
      | (refine V_regc hC ?_; simp [Ret, hbig])
      | (refine V_reg hC ?_; simp [Ret, hbig])
      | (refine (big_ok h).mono ?_; rintro _ _ ⟨rfl, rfl⟩; simp [Ret, hbig])
      | (refine w_split rfl (fun hq => ?_) (fun hq => ?_) <;> (try simp at hq) <;> simp [hq, Ret, hbig])
      | (refine V_cond rfl (fun hq => ?_) (fun hq => ?_) <;> (try simp at hq))
      | (with_reducible refine And.intro (fun hq => ?_) (fun hq => ?_))
      | (with_reducible intro hq)
      | fail)
  have hl : code.length < 2 ^ 40 := by omega
  repeat' (first
    | refine W_seq ?_
    | refine W_block ?_
    | (refine W_ret ?_; simp [Ret, hbig])
    | (refine W_skip ?_; simp [Ret, hbig])
    | (refine W_exit ?_; simp [Ret, hbig])
    | (refine V_regc hC ?_; simp [Ret, hbig])
    | (refine V_reg hC ?_; simp [Ret, hbig])
    | (refine (big_ok h).mono ?_; rintro _ _ ⟨rfl, rfl⟩; simp [Ret, hbig])
    | (refine (drawRestore_ok h hl).mono ?_; rintro _ H1 ⟨hg1, vl, ve, vk, ⟨n, rfl⟩, ⟨l, hl1, hl2⟩, ⟨es, he1, he2⟩, keep, hk1, hk2⟩)
    | (refine w_split rfl (fun hq => ?_) (fun hq => ?_) <;> (try simp at hq) <;> simp [hq, Ret, hbig])
    | (refine V_cond rfl (fun hq => ?_) (fun hq => ?_) <;> (try simp at hq))
    | (with_reducible refine And.intro (fun hq => ?_) (fun hq => ?_))
    | (with_reducible intro hq)
    | fail)
  have c1 := hl1.cl
  have c2 := he1.cl
  have c3 := hk1.cl
  by_cases hP : KeptP l es keep ∧ 0 ≤ n ∧ n ≤ es.length
  · obtain ⟨hk0, hn1, hn2⟩ := hP
    obtain ⟨m, rfl⟩ : ∃ m : Nat, n = m := ⟨n.toNat, by omega⟩
    obtain ⟨d, hd⟩ : ∃ d, d = (m : Int) - (kd keep (lastIdx keep m keep.length)).n := ⟨_, rfl⟩
    obtain ⟨S, hS⟩ : ∃ S, S = orZero (replayO l (es.take m)) := ⟨_, rfl⟩
    have hR : ∀ s d', RestP l es keep m s d' → s = S ∧ d' = d := by
      rintro s d' (⟨_, _, _, rfl, rfl⟩ | ⟨hno, _⟩)
      · exact ⟨by rw [hS]; simp, hd.symm⟩
      · exact (hno ⟨hk0, hn1, hn2⟩).elim
    have hls := lastIdx_spec (keep := keep) (n := m) (by rw [hk0.2.2.1]; omega) keep.length
    have hin := (hk0.2.2.2 (lastIdx keep m keep.length) (by have := hk0.2.1; omega)).1
    simp only [inB, decide_eq_true_eq] at hin
    have hd0 : 0 ≤ d := by omega
    have hd1 : d ≤ m := by omega
    all_goals (
      (try simp [c1, c2, c3])
      repeat' (first
        | refine W_seq ?_
        | refine W_block ?_
        | (refine W_ret ?_; simp [c1, c2, c3])
        | (refine W_skip ?_; simp [c1, c2, c3])
        | (refine W_exit ?_; simp [c1, c2, c3])
        | (refine V_regc hC ?_; simp [c1, c2, c3])
        | (refine V_reg hC ?_; simp [c1, c2, c3])
        | (refine (restore_ok hl1 he1 hk1 (by omega) (by omega) (by omega)).mono ?_; rintro _ H2 ⟨hg2, s, r, o, d1, rfl, hw, hr⟩; obtain ⟨hs1, hd1'⟩ := hR _ _ hr; subst hd1'; simp only [stV]; simp [c1, c2, c3])
        | (refine (sRestore_ok (hl1.gent hg2) (he1.gent hg2) (hk1.gent hg2) (by omega) (by omega) (by omega)).mono ?_; rintro _ H3 ⟨hg3, v3, s3, d3, rfl, hw3, hr3⟩; obtain ⟨_, rfl⟩ := hR _ _ hr3)
        | (refine w_split rfl (fun hq => ?_) (fun hq => ?_) <;> (try simp at hq) <;> simp [hq, c1, c2, c3])
        | (refine V_cond rfl (fun hq => ?_) (fun hq => ?_) <;> (try simp at hq))
        | (with_reducible refine And.intro (fun hq => ?_) (fun hq => ?_))
        | (with_reducible intro hq)
        | fail))
    obtain ⟨q1, q2, q3, q4, hq3⟩ := cl_four hw3
    have hg13 := hg2.trans hg3
    have hl3 := hl1.gent hg13
    have he3 := he1.gent hg13
    have hk3 := hk1.gent hg13
    all_goals (
      (try simp [hq3, hd0, hd1])
      repeat' (first
        | refine W_seq ?_
        | refine W_block ?_
        | (refine W_ret ?_; simp [hq3, hd0, hd1])
        | (refine W_skip ?_; simp [hq3, hd0, hd1])
        | (refine W_exit ?_; simp [hq3, hd0, hd1])
        | (refine V_regc hC ?_; simp [hq3, hd0, hd1])
        | (refine V_reg hC ?_; simp [hq3, hd0, hd1])
        | (refine (keptOk_ok hl3 he3 hk3 (by omega) (by omega) (by omega)).mono ?_; rintro _ H4 ⟨hg4, k1, rfl, hb1⟩; simp [hq3, hd0, hd1])
        | (refine (sKeptOk_ok (hl3.gent hg4) (he3.gent hg4) (hk3.gent hg4) (by omega) (by omega) (by omega)).mono ?_; rintro _ H5 ⟨hg5, k2, rfl, hb2⟩; obtain rfl := boolEq hb1 hb2; simp [hq3, hd0, hd1])
        | (refine (again_ok (hl3.gent (hg4.trans hg5)) (he3.gent (hg4.trans hg5)) (hk3.gent (hg4.trans hg5)) (by omega) (by omega) (by omega)).mono ?_; rintro _ H6 ⟨hg6, s4, d4, rfl, hr4⟩; obtain ⟨_, rfl⟩ := hR _ _ hr4; simp [hq3, hd0, hd1])
        | (refine w_split rfl (fun hq => ?_) (fun hq => ?_) <;> (try simp at hq) <;> simp [hq, hq3, hd0, hd1])
        | (refine V_cond rfl (fun hq => ?_) (fun hq => ?_) <;> (try simp at hq))
        | (with_reducible refine And.intro (fun hq => ?_) (fun hq => ?_))
        | (with_reducible intro hq)
        | fail))
    have hg6' : Gent H1 H6 := (hg13.trans (hg4.trans hg5)).trans hg6
    have hl6 := hl1.gent hg6'
    have he6 := he1.gent hg6'
    have hcut : IM.cutS ve none (some (m : Int)) 3 = some (cutv ve 0 m 3) := he1.cutS (lo := 0) (hi := m) (by omega) (by omega) rfl (by simp)
    have hsz : H6.szOk ve 3 = true := he6.szOk
    have hec : Rd H6 (cutv ve 0 m 3) (es.take m) := by
      have := he6.cut (lo := 0) (hi := m) (by omega) (by omega)
      simpa [sz, fz] using this
    obtain ⟨T, hT1, hT2⟩ := replayO_take hk0.1 m
    have hST : S = T := by rw [hS, hT2]; rfl
    have e7 := replay_ok hl6 hec (by omega) (by simp; omega)
    rw [hT2] at e7
    simp only [orZero, Option.getD_some, Option.isSome_some] at e7
    subst hs1
    refine ⟨fun hh => absurd hh (by omega), ?_⟩
    have hr6 : ∀ K, Gent H6 K → Rd K r s.regs := fun K hK => hw.fst.rd.gent (((hg3.trans (hg4.trans hg5)).trans hg6).trans hK)
    have ho6 : ∀ K, Gent H6 K → Rd K o s.out := fun K hK => hw.snd.rd.gent (((hg3.trans (hg4.trans hg5)).trans hg6).trans hK)
    have hlen : s.regs.length < 2 ^ 40 ∧ s.out.length < 2 ^ 40 := by rw [hS]; exact replayO_len _ _
    subst hST
    all_goals (
      (try simp [hcut, hsz])
      repeat' (first
        | refine W_seq ?_
        | refine W_block ?_
        | (refine W_ret ?_; simp [hcut, hsz])
        | (refine W_skip ?_; simp [hcut, hsz])
        | (refine W_exit ?_; simp [hcut, hsz])
        | (refine V_regc hC ?_; simp [hcut, hsz])
        | (refine V_reg hC ?_; simp [hcut, hsz])
        | (refine e7.mono ?_; rintro _ H7 ⟨hg7, r7, o7, rfl, hw7⟩; simp only [stV]; simp [hcut, hsz])
        | (refine (lSameState_ok (a := s) (b := s) (hr6 _ hg7) (ho6 _ hg7) hw7.fst.rd hw7.snd.rd hlen.1 hlen.2).mono ?_; rintro _ _ ⟨rfl, rfl⟩; simp [hcut, hsz])
        | (refine w_split rfl (fun hq => ?_) (fun hq => ?_) <;> (try simp at hq) <;> simp [hq, hcut, hsz])
        | (refine V_cond rfl (fun hq => ?_) (fun hq => ?_) <;> (try simp at hq))
        | (with_reducible refine And.intro (fun hq => ?_) (fun hq => ?_))
        | (with_reducible intro hq)
        | fail))
    exact ⟨by simp [hd1], (hg1.trans hg6').trans hg7⟩
  · have hR : ∀ s d', RestP l es keep n s d' → s = .zero ∧ d' = -1 := by
      rintro s d' (⟨h1, h2, h3, _⟩ | ⟨_, h1, h2⟩)
      · exact (hP ⟨h1, h2, h3⟩).elim
      · exact ⟨h1, h2⟩
    all_goals (
      (try simp [c1, c2, c3])
      repeat' (first
        | refine W_seq ?_
        | refine W_block ?_
        | (refine W_ret ?_; simp [c1, c2, c3])
        | (refine W_skip ?_; simp [c1, c2, c3])
        | (refine W_exit ?_; simp [c1, c2, c3])
        | (refine V_regc hC ?_; simp [c1, c2, c3])
        | (refine V_reg hC ?_; simp [c1, c2, c3])
        | (refine (restore_ok hl1 he1 hk1 (by omega) (by omega) (by omega)).mono ?_; rintro _ H2 ⟨hg2, s, r, o, d1, rfl, hw, hr⟩; obtain ⟨hs1, hd1'⟩ := hR _ _ hr; subst hd1'; simp only [stV]; simp [c1, c2, c3])
        | (refine (sRestore_ok (hl1.gent hg2) (he1.gent hg2) (hk1.gent hg2) (by omega) (by omega) (by omega)).mono ?_; rintro _ H3 ⟨hg3, v3, s3, d3, rfl, hw3, hr3⟩; obtain ⟨_, rfl⟩ := hR _ _ hr3)
        | (refine w_split rfl (fun hq => ?_) (fun hq => ?_) <;> (try simp at hq) <;> simp [hq, c1, c2, c3])
        | (refine V_cond rfl (fun hq => ?_) (fun hq => ?_) <;> (try simp at hq))
        | (with_reducible refine And.intro (fun hq => ?_) (fun hq => ?_))
        | (with_reducible intro hq)
        | fail))
    obtain ⟨q1, q2, q3, q4, hq3⟩ := cl_four hw3
    have hg13 := hg2.trans hg3
    have hl3 := hl1.gent hg13
    have he3 := he1.gent hg13
    have hk3 := hk1.gent hg13
    all_goals (
      (try simp [hq3])
      repeat' (first
        | refine W_seq ?_
        | refine W_block ?_
        | (refine W_ret ?_; simp [hq3])
        | (refine W_skip ?_; simp [hq3])
        | (refine W_exit ?_; simp [hq3])
        | (refine V_regc hC ?_; simp [hq3])
        | (refine V_reg hC ?_; simp [hq3])
        | (refine (keptOk_ok hl3 he3 hk3 (by omega) (by omega) (by omega)).mono ?_; rintro _ H4 ⟨hg4, k1, rfl, hb1⟩; simp [hq3])
        | (refine (sKeptOk_ok (hl3.gent hg4) (he3.gent hg4) (hk3.gent hg4) (by omega) (by omega) (by omega)).mono ?_; rintro _ H5 ⟨hg5, k2, rfl, hb2⟩; obtain rfl := boolEq hb1 hb2; simp [hq3])
        | (refine (again_ok (hl3.gent (hg4.trans hg5)) (he3.gent (hg4.trans hg5)) (hk3.gent (hg4.trans hg5)) (by omega) (by omega) (by omega)).mono ?_; rintro _ H6 ⟨hg6, s4, d4, rfl, hr4⟩; obtain ⟨_, rfl⟩ := hR _ _ hr4; simp [hq3])
        | (refine w_split rfl (fun hq => ?_) (fun hq => ?_) <;> (try simp at hq) <;> simp [hq, hq3])
        | (refine V_cond rfl (fun hq => ?_) (fun hq => ?_) <;> (try simp at hq))
        | (with_reducible refine And.intro (fun hq => ?_) (fun hq => ?_))
        | (with_reducible intro hq)
        | fail))
    have hlr : lenV r = some (.int .i64 0) := by
      have := hw.fst.rd.lenV
      rw [hs1] at this
      simpa [State.zero] using this
    all_goals (
      (try simp [hlr])
      repeat' (first
        | refine W_seq ?_
        | refine W_block ?_
        | (refine W_ret ?_; simp [hlr])
        | (refine W_skip ?_; simp [hlr])
        | (refine W_exit ?_; simp [hlr])
        | (refine V_regc hC ?_; simp [hlr])
        | (refine V_reg hC ?_; simp [hlr])
        | (refine w_split rfl (fun hq => ?_) (fun hq => ?_) <;> (try simp at hq) <;> simp [hq, hlr])
        | (refine V_cond rfl (fun hq => ?_) (fun hq => ?_) <;> (try simp at hq))
        | (with_reducible refine And.intro (fun hq => ?_) (fun hq => ?_))
        | (with_reducible intro hq)
        | fail))
    exact ⟨rfl, ((hg1.trans hg13).trans (hg4.trans hg5)).trans hg6⟩

end Go.Proofs.Ytpnbojehfngigaa.IM
