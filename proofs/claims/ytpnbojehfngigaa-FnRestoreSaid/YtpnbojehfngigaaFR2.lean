/- The law FnRestore returns true for every input, and its input reads behind the call as it did. No condition. -/
import Derived.Test.YtpnbojehfngigaaFR1

/- The ideal machine: what a step leans on. -/
namespace Go.Proofs.Ytpnbojehfngigaa.IM
open Go
set_option linter.unusedVariables false
set_option linter.unusedSimpArgs false

/-- What a step leans on, and what it changes. -/
inductive Kd where
  | pure
  | rd (t : Nat)
  | wr (t : Nat) (cs : List Value)
  | mk (t : Nat) (cs : List Value)
  | ldh (p : Value) (m : Nat)
  | heap

def Kd.env (k : Kd) (e : Env) : Env := match k with
  | .mk t _ => clr e t
  | _ => e

def Kd.bx (k : Kd) (b : List (List Value)) : List (List Value) := match k with
  | .wr t cs => b.set t cs
  | .mk t cs => b.set t cs
  | _ => b

/-- What must be alike for a step to go alike. -/
def Kd.alike (k : Kd) (bx bx2 : List (List Value)) (H H2 : Heap) : Prop := match k with
  | .rd t => bx2[t]? = bx[t]?
  | .wr t _ => bx2[t]? = bx[t]?
  | .ldh p m => H2.rd p m = H.rd p m
  | .heap => H2 = H
  | _ => True

def Kd.h (k : Kd) (H' H2 : Heap) : Heap := match k with
  | .heap => H'
  | _ => H2

/-- What a kind says of the operation's text. -/
def Kd.says (k : Kd) (vs : List (Option Value)) (io : IOp) (env : Env) (bx : List (List Value)) : Prop := match k with
  | .pure => (makesBox io.k = none ∧ ∀ a ∈ io.args, ∀ t o, ev env vs a ≠ some (.adr t o)) ∨ want env io.guard = some false
  | .rd t => (isFa io.k = true ∨ isLd io.k = true) ∧ (∃ a o, io.args = [a] ∧ ev env vs a = some (.adr t o)) ∧ ∃ cs, bx[t]? = some cs ∧ (isFa io.k = true → cs ≠ [])
  | .wr t cs => (∃ m, io.k = .st m) ∧ (∃ a b o, io.args = [a, b] ∧ ev env vs a = some (.adr t o)) ∧ ∃ cs0, bx[t]? = some cs0 ∧ cs.length = cs0.length
  | .mk t cs => makesBox io.k = some t ∧ (io.k = .abx t cs ∨ ∃ m, io.k = .bbx t m ∧ cs.length = m)
  | .ldh p m => (∃ g, io.k = .ld m g) ∧ ∃ a, io.args = [a] ∧ ev env vs a = some (.val p)
  | .heap => 0 < memClass io.k ∧ isLd io.k = false ∧ ∀ m, io.k = .st m → ∃ a b v, io.args = [a, b] ∧ ev env vs a = some (.val v)

abbrev Res4 := Option EV × List (List Value) × Heap

theorem iexec_pure {k : IK} {xs : List EV} (hk : memClass k = 0) (hm : makesBox k = none) (hn : noadr xs = true) (bx bx2 : List (List Value)) (H H2 : Heap) :
    iexec k xs bx2 H2 = (iexec k xs bx H).map fun r : Res4 => (r.1, bx2, H2) := by
  cases k with
  | fa off =>
    rcases xs with _ | ⟨y, _ | ⟨z, l⟩⟩
    · rfl
    · cases y with
      | val v => simp only [iexec]; cases addP v off <;> rfl
      | adr t o => simp [noadr] at hn
      | _ => rfl
    · cases y <;> rfl
  | abx => simp [makesBox] at hm
  | bbx => simp [makesBox] at hm
  | ld | st | ah | bh | bs | mk | sl | app | appz | cvs | call | callv => simp [memClass] at hk
  | bad => unfold iexec; split <;> simp_all
  | mv =>
    rcases xs with _ | ⟨y, _ | ⟨z, l⟩⟩
    · rfl
    · cases y <;> rfl
    · cases y <;> rfl
  | _ =>
    unfold iexec
    split <;> first | (simp at *; done) | skip
    all_goals (repeat' split) <;> simp_all [Function.comp_def]

theorem iexec_heap {k : IK} {xs : List EV} (hk : 0 < memClass k) (hn : noadr xs = true) (bx bx2 : List (List Value)) (H : Heap) :
    iexec k xs bx2 H = (iexec k xs bx H).map fun r : Res4 => (r.1, bx2, r.2.2) := by
  cases k with
  | ld m g =>
    rcases xs with _ | ⟨y, _ | ⟨z, l⟩⟩
    · rfl
    · cases y with
      | val v => simp only [iexec]; cases H.rd v m <;> rfl
      | adr t o => simp [noadr] at hn
      | _ => rfl
    · cases y <;> rfl
  | st m =>
    rcases xs with _ | ⟨y, _ | ⟨z, _ | ⟨q, l⟩⟩⟩
    · rfl
    · cases y <;> rfl
    · cases y with
      | val v => cases z with
        | val u =>
          simp only [iexec]
          split
          · cases H.wr v (cl u) <;> rfl
          · rfl
        | _ => rfl
      | adr t o => simp [noadr] at hn
      | _ => cases z <;> rfl
    · cases y <;> cases z <;> rfl
  | mv | pick | bin | not | neg | fa | ia | abx | bbx | bd | nc | ex | len | cap | min | max | cvi | mf | bad => simp [memClass] at hk
  | _ =>
    unfold iexec
    split <;> first | (simp at *; done) | skip
    all_goals (repeat' split) <;> simp_all [Function.comp_def]

theorem evs_agree {vs vs2 : List (Option Value)} {env env2 : Env} : ∀ {as : List IOpd}, (∀ a ∈ as, ev env2 vs2 a = ev env vs a) → evs env2 vs2 as = evs env vs as
  | [], _ => rfl
  | a :: as, h => by
    simp only [evs]
    rw [h a (by simp), evs_agree (as := as) fun b hb => h b (by simp [hb])]

theorem evs_noadr {vs : List (Option Value)} {env : Env} : ∀ {as : List IOpd} {xs : List EV}, noadr xs = true → evs env vs as = some xs → ∀ a ∈ as, ∀ t o, ev env vs a ≠ some (.adr t o)
  | [], xs, _, _, a, ha, _, _, _ => by simp at ha
  | b :: as, xs, hn, h, a, ha, t, o, he => by
    simp only [evs] at h
    split at h
    · rename_i y ys h1 h2
      simp only [Option.some.injEq] at h; subst h
      have hy : noadr ys = true := by cases y <;> simp_all [noadr]
      simp only [List.mem_cons] at ha
      rcases ha with rfl | ha
      · rw [h1] at he; simp only [Option.some.injEq] at he; subst he; simp [noadr] at hn
      · exact evs_noadr hy h2 a ha t o he
    · simp at h

theorem allV_noadr' {xs : List EV} {l : List Value} (h : iexec.allV xs = some l) : noadr xs = true := allV_noadr h

/-- What a step leans on. -/
theorem step_local {P : Program} {vs : List (Option Value)} {io : IOp} {env env' : Env} {bx bx' : List (List Value)} {H H' : Heap} (h : Step1 P vs io env bx H env' bx' H') :
    ∃ (k : Kd) (x : Option EV), env' = bind1 (k.env env) io.dst x ∧ bx' = k.bx bx ∧ H' = k.h H' H ∧ k.says vs io env bx ∧
      ∀ (vs2 : List (Option Value)) (env2 : Env) (bx2 : List (List Value)) (H2 : Heap), (∀ a ∈ io.args, ev env2 vs2 a = ev env vs a) → want env2 io.guard = want env io.guard → k.alike bx bx2 H H2 →
        Step1 P vs2 io env2 bx2 H2 (bind1 (k.env env2) io.dst x) (k.bx bx2) (k.h H' H2) := by
  cases h with
  | skip hw => exact ⟨.pure, none, rfl, rfl, rfl, .inr hw, fun vs2 env2 bx2 H2 ha hg _ => .skip (by rw [hg]; exact hw)⟩
  | @call xs args f r _ hw hxs hv hk hd =>
    refine ⟨.heap, some (resEV r), rfl, rfl, rfl, ⟨by rw [hk]; simp [memClass], by rw [hk]; rfl, fun m e => by rw [hk] at e; simp at e⟩, fun vs2 env2 bx2 H2 ha hg hal => ?_⟩
    simp only [Kd.alike] at hal; subst hal
    exact .call (by rw [hg]; exact hw) (by rw [evs_agree ha]; exact hxs) hv hk hd
  | @callv xs args cap f r _ hw hxs hv hk hd =>
    refine ⟨.heap, some (resEV r), rfl, rfl, rfl, ⟨by rw [hk]; simp [memClass], by rw [hk]; rfl, fun m e => by rw [hk] at e; simp at e⟩, fun vs2 env2 bx2 H2 ha hg hal => ?_⟩
    simp only [Kd.alike] at hal; subst hal
    exact .callv (by rw [hg]; exact hw) (by rw [evs_agree ha]; exact hxs) hv hk hd
  | @exec xs x _ _ hw hxs hok hx =>
    have hargs : ∀ {ys : List EV} {a : IOpd}, evs env vs [a] = some ys → ∃ y, ys = [y] ∧ ev env vs a = some y := by
      intro ys a h
      simp only [evs] at h
      split at h
      · rename_i y zs h1 h2
        simp only [Option.some.injEq] at h2 h; subst h2; subst h
        exact ⟨y, rfl, h1⟩
      · simp at h
    have len : ∀ {as : List IOpd} {ys : List EV}, evs env vs as = some ys → as.length = ys.length := by
      intro as
      induction as with
      | nil => intro ys h; simp only [evs, Option.some.injEq] at h; subst h; rfl
      | cons a as ih =>
        intro ys h
        simp only [evs] at h
        split at h
        · rename_i y zs h1 h2
          simp only [Option.some.injEq] at h; subst h
          simp [ih h2]
        · simp at h
    have one : ∀ {y : EV}, xs = [y] → ∃ a, io.args = [a] ∧ ev env vs a = some y := by
      intro y e
      have hl := len hxs
      rw [e] at hl hxs
      match ha : io.args, hl with
      | [a], _ =>
        rw [ha] at hxs
        obtain ⟨y', h1, h2⟩ := hargs hxs
        simp only [List.cons.injEq, and_true] at h1; subst h1
        exact ⟨a, rfl, h2⟩
    have two : ∀ {y z : EV}, xs = [y, z] → ∃ a b, io.args = [a, b] ∧ ev env vs a = some y := by
      intro y z e
      have hl := len hxs
      rw [e] at hl hxs
      match ha : io.args, hl with
      | [a, b], _ =>
        rw [ha] at hxs
        simp only [evs] at hxs
        split at hxs
        · rename_i y' zs h1 h2
          simp only [Option.some.injEq, List.cons.injEq] at hxs
          exact ⟨a, b, rfl, by rw [h1, hxs.1]⟩
        · simp at hxs
    have go : ∀ {vs2 : List (Option Value)} {env2 : Env} {bx2 bx2' : List (List Value)} {H2 H2' : Heap}, (∀ a ∈ io.args, ev env2 vs2 a = ev env vs a) → want env2 io.guard = want env io.guard → iexec io.k xs bx2 H2 = some (x, bx2', H2') →
        Step1 P vs2 io env2 bx2 H2 (bind1 (clrk io.k env2) io.dst x) bx2' H2' := fun ha hg hx2 => .exec (by rw [hg]; exact hw) (by rw [evs_agree ha]; exact hxs) hok hx2
    rcases iexec_adr hok hx with hn | ⟨off, t, o, hk, rfl⟩ | ⟨m, g, t, o, hk, rfl⟩ | ⟨m, t, o, v, hk, rfl⟩
    · cases hmk : makesBox io.k with
      | some t =>
        cases hk : io.k with
        | abx u z =>
          rw [hk] at hmk hx go
          simp only [makesBox, Option.some.injEq] at hmk; subst hmk
          have hxe : xs = [] := by
            rcases xs with _ | ⟨y, l⟩
            · rfl
            · exact absurd (show (none : Option Res4) = _ from hx) (by simp)
          subst hxe
          simp only [iexec, Option.some.injEq, Prod.mk.injEq] at hx
          obtain ⟨rfl, rfl, rfl⟩ := hx
          exact ⟨.mk u z, _, rfl, rfl, rfl, ⟨by rw [hk]; rfl, .inl hk⟩, fun vs2 env2 bx2 H2 ha hg _ => go ha hg rfl⟩
        | bbx u n =>
          rw [hk] at hmk hx go
          simp only [makesBox, Option.some.injEq] at hmk; subst hmk
          obtain ⟨v, hxe⟩ : ∃ v, xs = [.val v] := by
            rcases xs with _ | ⟨y, _ | ⟨z, l⟩⟩
            · exact absurd (show (none : Option Res4) = _ from hx) (by simp)
            · cases y with
              | val v => exact ⟨v, rfl⟩
              | _ => exact absurd (show (none : Option Res4) = _ from hx) (by simp)
            · cases y <;> exact absurd (show (none : Option Res4) = _ from hx) (by simp)
          subst hxe
          simp only [iexec] at hx
          split at hx
          · rename_i hl
            simp only [Option.some.injEq, Prod.mk.injEq] at hx
            obtain ⟨rfl, rfl, rfl⟩ := hx
            exact ⟨.mk u (cl v), _, rfl, rfl, rfl, ⟨by rw [hk]; rfl, .inr ⟨n, hk, hl⟩⟩, fun vs2 env2 bx2 H2 ha hg _ => go ha hg (by simp only [iexec]; rw [if_pos hl]; rfl)⟩
          · simp at hx
        | _ => rw [hk] at hmk; simp [makesBox] at hmk
      | none =>
        have hc : ∀ e, clrk io.k e = e := by intro e; cases hk : io.k <;> simp_all [makesBox, clrk]
        simp only [hc] at go ⊢
        by_cases hm : memClass io.k = 0
        · have hb := iexec_pure hm hmk hn bx bx H H
          rw [hx] at hb
          simp only [Option.map_some, Option.some.injEq, Prod.mk.injEq, true_and] at hb
          obtain ⟨rfl, rfl⟩ := hb
          refine ⟨.pure, x, rfl, rfl, rfl, .inl ⟨hmk, evs_noadr hn hxs⟩, fun vs2 env2 bx2 H2 ha hg _ => go ha hg ?_⟩
          rw [iexec_pure hm hmk hn bx' bx2 H' H2, hx]; rfl
        · by_cases hl : isLd io.k = true
          · obtain ⟨m, g, hk⟩ : ∃ m g, io.k = .ld m g := by cases hk : io.k <;> simp_all [isLd]
            obtain ⟨p, hxe⟩ : ∃ p, xs = [.val p] := by
              rw [hk] at hx
              rcases xs with _ | ⟨y, _ | ⟨z, l⟩⟩
              · exact absurd (show (none : Option Res4) = _ from hx) (by simp)
              · cases y with
                | val v => exact ⟨v, rfl⟩
                | adr t o => simp [noadr] at hn
                | _ => exact absurd (show (none : Option Res4) = _ from hx) (by simp)
              · cases y <;> exact absurd (show (none : Option Res4) = _ from hx) (by simp)
            obtain ⟨a, ha1, ha2⟩ := one hxe
            subst hxe
            rw [hk] at hx
            simp only [iexec] at hx
            cases hr : H.rd p m with
            | none => rw [hr] at hx; simp at hx
            | some cs =>
              rw [hr] at hx
              simp only [Option.map_some, Option.some.injEq, Prod.mk.injEq] at hx
              obtain ⟨rfl, rfl, rfl⟩ := hx
              refine ⟨.ldh p m, _, rfl, rfl, rfl, ⟨⟨g, hk⟩, a, ha1, ha2⟩, fun vs2 env2 bx2 H2 ha hg hal => go ha hg ?_⟩
              simp only [Kd.alike] at hal
              rw [hk]; simp only [iexec, hal, hr]; rfl
          · have hm' : 0 < memClass io.k := Nat.pos_of_ne_zero hm
            have hb := iexec_heap hm' hn bx bx H
            rw [hx] at hb
            simp only [Option.map_some, Option.some.injEq, Prod.mk.injEq, true_and, and_true] at hb
            subst hb
            refine ⟨.heap, x, rfl, rfl, rfl, ⟨hm', by simpa using hl, fun m e => ?_⟩, fun vs2 env2 bx2 H2 ha hg hal => ?_⟩
            · rw [e] at hx
              rcases xs with _ | ⟨y, _ | ⟨z, _ | ⟨q, l⟩⟩⟩
              · exact absurd (show (none : Option Res4) = _ from hx) (by simp)
              · cases y <;> exact absurd (show (none : Option Res4) = _ from hx) (by simp)
              · cases y with
                | val v =>
                  obtain ⟨a, b, h1, h2⟩ := two rfl
                  exact ⟨a, b, v, h1, h2⟩
                | adr t o => simp [noadr] at hn
                | _ => cases z <;> exact absurd (show (none : Option Res4) = _ from hx) (by simp)
              · cases y <;> cases z <;> exact absurd (show (none : Option Res4) = _ from hx) (by simp)
            · simp only [Kd.alike] at hal; subst hal
              refine go ha hg ?_
              rw [iexec_heap hm' hn bx' bx2 H2, hx]; rfl
    · obtain ⟨a, ha1, ha2⟩ := one rfl
      rw [hk] at hx
      simp only [iexec] at hx
      cases hb : bx[t]? with
      | none => rw [hb] at hx; simp at hx
      | some cs =>
        rw [hb] at hx
        simp only at hx
        split at hx
        · rename_i hlt
          simp only [Option.some.injEq, Prod.mk.injEq] at hx
          obtain ⟨rfl, rfl, rfl⟩ := hx
          have hc : ∀ e, clrk io.k e = e := by intro e; rw [hk]; rfl
          simp only [hc] at go ⊢
          refine ⟨.rd t, _, rfl, rfl, rfl, ⟨.inl (by rw [hk]; rfl), ⟨a, o, ha1, ha2⟩, cs, hb, fun _ => by rintro rfl; simp at hlt⟩, fun vs2 env2 bx2 H2 ha hg hal => go ha hg ?_⟩
          simp only [Kd.alike] at hal
          rw [hk]; simp only [iexec, hal, hb]; rw [if_pos hlt]; rfl
        · simp at hx
    · obtain ⟨a, ha1, ha2⟩ := one rfl
      rw [hk] at hx
      simp only [iexec] at hx
      cases hb : bx[t]? with
      | none => rw [hb] at hx; simp at hx
      | some cs =>
        rw [hb] at hx
        simp only at hx
        split at hx
        · rename_i hle
          simp only [Option.some.injEq, Prod.mk.injEq] at hx
          obtain ⟨rfl, rfl, rfl⟩ := hx
          have hc : ∀ e, clrk io.k e = e := by intro e; rw [hk]; rfl
          simp only [hc] at go ⊢
          refine ⟨.rd t, _, rfl, rfl, rfl, ⟨.inr (by rw [hk]; rfl), ⟨a, o, ha1, ha2⟩, cs, hb, fun h => by rw [hk] at h; simp [isFa] at h⟩, fun vs2 env2 bx2 H2 ha hg hal => go ha hg ?_⟩
          simp only [Kd.alike] at hal
          rw [hk]; simp only [iexec, hal, hb]; rw [if_pos hle]; rfl
        · simp at hx
    · obtain ⟨a, b, ha1, ha2⟩ := two rfl
      rw [hk] at hx
      simp only [iexec] at hx
      cases hb : bx[t]? with
      | none => rw [hb] at hx; simp at hx
      | some cs =>
        rw [hb] at hx
        simp only at hx
        split at hx
        · rename_i hle
          simp only [Option.some.injEq, Prod.mk.injEq] at hx
          obtain ⟨rfl, rfl, rfl⟩ := hx
          have hc : ∀ e, clrk io.k e = e := by intro e; rw [hk]; rfl
          simp only [hc] at go ⊢
          refine ⟨.wr t (put cs o (cl v)), _, rfl, rfl, rfl, ⟨⟨m, hk⟩, ⟨a, b, o, ha1, ha2⟩, cs, hb, put_length _ _ _ (by omega)⟩, fun vs2 env2 bx2 H2 ha hg hal => go ha hg ?_⟩
          simp only [Kd.alike] at hal
          rw [hk]; simp only [iexec, hal, hb]; rw [if_pos hle]; rfl
        · simp at hx

end Go.Proofs.Ytpnbojehfngigaa.IM

/- The ideal machine: what is known of a drawn order. -/
namespace Go.Proofs.Ytpnbojehfngigaa.IM
open Go
set_option linter.unusedVariables false
set_option linter.unusedSimpArgs false

theorem ancs_snoc (l : List Oper) (o : Oper) : ancs (l ++ [o]) = ancs l ++ [o.after.foldl (fun s e => if Region.binds .any e then s ||| 2 ^ e.on ||| (ancs l).getD e.on 0 else s) 0] := by
  unfold ancs
  rw [List.foldl_append]; rfl

theorem snoc_ind {α : Type} {p : List α → Prop} (h0 : p []) (h1 : ∀ l x, p l → p (l ++ [x])) : ∀ l, p l := by
  intro l
  rw [← List.reverse_reverse l]
  induction l.reverse with
  | nil => exact h0
  | cons x xs ih => rw [List.reverse_cons]; exact h1 _ _ ih

theorem ancs_length : ∀ l : List Oper, (ancs l).length = l.length := by
  refine snoc_ind rfl fun l o ih => ?_
  rw [ancs_snoc]; simp [ih]

theorem fold_bit (f : Nat → Nat) (i : Nat) : ∀ (es : List Edge) (s : Nat), (es.foldl (fun s e => if Region.binds .any e then s ||| 2 ^ e.on ||| f e.on else s) s).testBit i = true →
    s.testBit i = true ∨ ∃ e ∈ es, Region.binds .any e = true ∧ (i = e.on ∨ (f e.on).testBit i = true)
  | [], s, h => .inl h
  | e :: es, s, h => by
    simp only [List.foldl_cons] at h
    rcases fold_bit f i es _ h with h1 | ⟨e', h1, h2, h3⟩
    · split at h1
      · rename_i hb
        simp only [Nat.testBit_or, Bool.or_eq_true, Nat.testBit_two_pow, decide_eq_true_eq] at h1
        rcases h1 with (h1 | h1) | h1
        · exact .inl h1
        · exact .inr ⟨e, by simp, hb, .inl h1.symm⟩
        · exact .inr ⟨e, by simp, hb, .inr h1⟩
      · exact .inl h1
    · exact .inr ⟨e', by simp [h1], h2, h3⟩

theorem ancs_spec : ∀ (l : List Oper) (j i : Nat), preds (ancs l) j i = true → ∃ o, l[j]? = some o ∧ ∃ e ∈ o.after.toList, Region.binds .any e = true ∧ (i = e.on ∨ preds (ancs l) e.on i = true) := by
  refine snoc_ind ?_ ?_
  · intro j i h; simp [preds, ancs] at h
  · intro l o ih j i h
    have hl := ancs_length l
    have lift : ∀ k, preds (ancs l) k i = true → preds (ancs (l ++ [o])) k i = true := by
      intro k hk
      unfold preds at hk ⊢
      rw [ancs_snoc]
      by_cases hkl : k < (ancs l).length
      · rw [List.getD_eq_getElem?_getD, List.getElem?_append_left hkl, ← List.getD_eq_getElem?_getD]; exact hk
      · rw [List.getD_eq_getElem?_getD, List.getElem?_eq_none (by omega)] at hk
        simp at hk
    unfold preds at h
    rw [ancs_snoc, List.getD_eq_getElem?_getD] at h
    by_cases hj : j < l.length
    · rw [List.getElem?_append_left (by omega), ← List.getD_eq_getElem?_getD] at h
      obtain ⟨o', h1, e, h2, h3, h4⟩ := ih j i h
      refine ⟨o', by rw [List.getElem?_append_left hj]; exact h1, e, h2, h3, ?_⟩
      rcases h4 with h4 | h4
      · exact .inl h4
      · exact .inr (lift _ h4)
    · by_cases hj2 : j = l.length
      · subst hj2
        rw [List.getElem?_append_right (by omega), hl] at h
        simp only [Nat.sub_self, List.getElem?_cons_zero, Option.getD_some] at h
        rw [← Array.foldl_toList] at h
        rcases fold_bit (fun k => (ancs l).getD k 0) i _ _ h with h1 | ⟨e, h1, h2, h3⟩
        · simp at h1
        · refine ⟨o, by simp, e, h1, h2, ?_⟩
          rcases h3 with h3 | h3
          · exact .inl h3
          · exact .inr (lift _ h3)
      · rw [List.getElem?_eq_none (by simp; omega)] at h
        simp at h

/-- A listing that holds with each operation those that it waits for. -/
def Closed (ops : List Oper) (l : Nat → Prop) : Prop := ∀ j o, ops[j]? = some o → l j → ∀ e ∈ o.after.toList, Region.binds .any e = true → l e.on

theorem closed_preds {ops : List Oper} {l : Nat → Prop} (hb : ∀ j o, ops[j]? = some o → ∀ e ∈ o.after.toList, Region.binds .any e = true → e.on < j) (hc : Closed ops l) :
    ∀ j i o, ops[j]? = some o → (∀ e ∈ o.after.toList, Region.binds .any e = true → l e.on) → preds (ancs ops) j i = true → l i := by
  intro j
  induction j using Nat.strongRecOn with
  | _ j ih =>
    intro i o ho ha hp
    obtain ⟨o', h1, e, h2, h3, h4⟩ := ancs_spec ops j i hp
    rw [ho] at h1; simp only [Option.some.injEq] at h1; subst h1
    rcases h4 with rfl | h4
    · exact ha e h2 h3
    · obtain ⟨o2, g1, _⟩ := ancs_spec ops e.on i h4
      exact ih e.on (hb j o ho e h2 h3) i o2 g1 (fun e2 g2 g3 => hc e.on o2 g1 (ha e h2 h3) e2 g2 g3) h4

structure Order (ops : List Oper) (ios : List IOp) (n : Nat) (late : List Nat) : Prop where
  nd : (dsts ios).Nodup
  back : ∀ (j : Nat) (o : Oper), ops[j]? = some o → ∀ e ∈ o.after.toList, Region.binds .any e = true → e.on < j
  clash : ∀ (i j : Nat) (x y : IOp), i < j → ios[i]? = some x → ios[j]? = some y → IM.clash (adrs ios []) x y = true → preds (ancs ops) j i = true
  make : ∀ (i j : Nat) (x y : IOp) (t : Nat), i < j → ios[i]? = some x → ios[j]? = some y → makesBox y.k = some t → usesBox t x = false
  fa : ∀ (i j : Nat) (x y : IOp) (d : Nat), i < j → ios[i]? = some x → ios[j]? = some y → isFa y.k = true → y.dst = some d → d ∉ rdTmps x
  heap : ∀ (i j : Nat) (x y : IOp), i < j → n ≤ j → ios[i]? = some x → ios[j]? = some y → heapy (adrs ios []) x = true → heapy (adrs ios []) y = true → preds (ancs ops) j i = true ∨ (isLd x.k = true ∧ i ∈ late)

theorem order_spec {ops : List Oper} {ios : List IOp} {n : Nat} {late : List Nat} (h : orderOk ops ios n late = true) : Order ops ios n late := by
  unfold orderOk at h
  simp only [Bool.and_eq_true, decide_eq_true_eq, List.all_eq_true, List.mem_range] at h
  obtain ⟨⟨h1, h2⟩, h3⟩ := h
  have pair : ∀ (i j : Nat) (x y : IOp), i < j → ios[i]? = some x → ios[j]? = some y → (IM.clash (adrs ios []) x y = true → preds (ancs ops) j i = true) ∧ (∀ t, makesBox y.k = some t → usesBox t x = false) ∧ (∀ d, isFa y.k = true → y.dst = some d → d ∉ rdTmps x) ∧
      (n ≤ j → heapy (adrs ios []) x = true → heapy (adrs ios []) y = true → preds (ancs ops) j i = true ∨ (isLd x.k = true ∧ i ∈ late)) := by
    intro i j x y hij hx hy
    have := h3 j (List.getElem?_eq_some_iff.1 hy).1 i hij
    rw [hx, hy] at this
    simp only [Bool.and_eq_true, Bool.or_eq_true, Bool.not_eq_true', List.contains_iff_mem] at this
    obtain ⟨⟨⟨a, b⟩, f⟩, c⟩ := this
    refine ⟨fun hc => ?_, fun t ht => ?_, fun d hf hd hm => ?_, fun hn hhx hhy => ?_⟩
    · rcases a with a | a
      · rw [hc] at a; simp at a
      · exact a
    · rw [ht] at b; simpa using b
    · rw [hf, hd] at f; simp [hm] at f
    · rcases c with (c | c) | c
      · rw [hhx, hhy] at c; simp at c; omega
      · exact .inl c
      · exact .inr c
  refine ⟨h1, fun j o ho e he hb => ?_, fun i j x y hij hx hy hc => (pair i j x y hij hx hy).1 hc, fun i j x y t hij hx hy hm => (pair i j x y hij hx hy).2.1 t hm, fun i j x y d hij hx hy hf hd => (pair i j x y hij hx hy).2.2.1 d hf hd, fun i j x y hij hn hx hy => (pair i j x y hij hx hy).2.2.2 hn⟩
  have := h2 j (List.getElem?_eq_some_iff.1 ho).1
  rw [ho] at this
  simp only [Array.all_eq_true'] at this
  have := this e (by simpa using he)
  simp only [Bool.or_eq_true, Bool.not_eq_true', decide_eq_true_eq] at this
  rcases this with h4 | h4
  · rw [hb] at h4; simp at h4
  · exact h4

end Go.Proofs.Ytpnbojehfngigaa.IM

/- The ideal machine: a run in the text's order, written out. -/
namespace Go.Proofs.Ytpnbojehfngigaa.IM
open Go
set_option linter.unusedVariables false
set_option linter.unusedSimpArgs false

/-- A run in the text's order, written out. -/
structure Trace (P : Program) (vs : List (Option Value)) (n : Nat) (late : List Nat) (ios : List IOp) (E : Nat → Env) (B : Nat → List (List Value)) (Hs : Nat → Heap) : Prop where
  step : ∀ j io, ios[j]? = some io → Step1 P vs io (E j) (B j) (Hs j) (E (j + 1)) (B (j + 1)) (Hs (j + 1))
  gent : ∀ j, j < n → j < ios.length → Gent (Hs j) (Hs (j + 1))
  late : ∀ i, i ∈ late → ∀ io m g p, ios[i]? = some io → io.k = .ld m g → evs (E i) vs io.args = some [.val p] → ∀ j, i < j → j ≤ ios.length → (Hs j).rd p m = (Hs i).rd p m

theorem Run1.trace {P : Program} {vs : List (Option Value)} : ∀ {n : Nat} {ios : List IOp} {env env' : Env} {bx bx' : List (List Value)} {H H' : Heap}, Run1 P vs n ios env bx H env' bx' H' →
    ∃ E B Hs, E 0 = env ∧ B 0 = bx ∧ Hs 0 = H ∧ E ios.length = env' ∧ B ios.length = bx' ∧ Hs ios.length = H' ∧ Trace P vs n [] ios E B Hs
  | n, [], env, env', bx, bx', H, H', h => by
    cases h
    exact ⟨fun _ => env, fun _ => bx, fun _ => H, rfl, rfl, rfl, rfl, rfl, rfl, ⟨fun j io h => by simp at h, fun j _ h => by simp at h, fun i h => by simp at h⟩⟩
  | n, o :: os, env, env', bx, bx', H, H', h => by
    cases h with
    | cons hs hg ht =>
      obtain ⟨E, B, Hs, h1, h2, h3, h4, h5, h6, h7⟩ := ht.trace
      refine ⟨fun j => if j = 0 then env else E (j - 1), fun j => if j = 0 then bx else B (j - 1), fun j => if j = 0 then H else Hs (j - 1), rfl, rfl, rfl, by simpa using h4, by simpa using h5, by simpa using h6, ⟨fun j io hj => ?_, fun j hn hj => ?_, fun i h => by simp at h⟩⟩
      · cases j with
        | zero => simp at hj; subst hj; simpa [h1, h2, h3] using hs
        | succ j => simpa using h7.step j io (by simpa using hj)
      · cases j with
        | zero => simpa [h3] using hg (by omega)
        | succ j => simpa using h7.gent j (by omega) (by simpa using hj)

end Go.Proofs.Ytpnbojehfngigaa.IM

/- The ideal machine: which temporaries hold places of boxes. -/
namespace Go.Proofs.Ytpnbojehfngigaa.IM
open Go
set_option linter.unusedVariables false
set_option linter.unusedSimpArgs false

/-- An operand's text is in order. -/
def OpdOk (C : Cfg) : IOpd → Prop
  | .l d => d ∉ C.B
  | .v k d => d ∉ C.B ∧ C.K[k]? = some d
  | .b t d => C.B[t]? = some d
  | .c _ => True

structure IopOk (C : Cfg) (io : IOp) : Prop where
  args : ∀ a ∈ io.args, OpdOk C a
  make : ∀ t, makesBox io.k = some t → ∃ d, io.dst = some d ∧ C.B[t]? = some d
  other : ∀ d, io.dst = some d → makesBox io.k = none → io.k ≠ .bad → d ∉ C.B
  bad : ∀ d, io.dst = some d → d ∈ C.B → io.guard = none
  lt : ∀ d, io.dst = some d → d < C.nt
  guard : makesBox io.k ≠ none → io.guard = none
  big : (∀ t z, io.k = .abx t z → z ≠ []) ∧ ∀ t m, io.k = .bbx t m → 0 < m

theorem cOpd_ok {C : Cfg} {o : Operand} {a : IOpd} (h : cOpd C o = some a) : OpdOk C a := by
  unfold cOpd at h
  split at h
  · rename_i t
    split at h
    · rename_i i hi
      simp only [Option.some.injEq] at h; subst h
      exact idxOf_get hi
    · rename_i hi
      rw [List.idxOf?_eq_none_iff] at hi
      split at h
      · rename_i k hk
        simp only [Option.some.injEq] at h; subst h
        exact ⟨hi, idxOf_get hk⟩
      · simp only [Option.some.injEq] at h; subst h
        exact hi
  · split at h
    · simp only [Option.some.injEq] at h; subst h; trivial
    · simp at h
  · simp at h
  · simp only [Option.some.injEq] at h; subst h; trivial

theorem cOpds_ok {C : Cfg} : ∀ {os : List Operand} {as : List IOpd}, cOpds C os = some as → ∀ a ∈ as, OpdOk C a
  | [], as, h => by simp only [cOpds, Option.some.injEq] at h; subst h; intro a ha; simp at ha
  | o :: os, as, h => by
    simp only [cOpds] at h
    split at h
    · rename_i y ys h1 h2
      simp only [Option.some.injEq] at h; subst h
      intro a ha
      simp only [List.mem_cons] at ha
      rcases ha with rfl | ha
      · exact cOpd_ok h1
      · exact cOpds_ok h2 a ha
    · simp at h

theorem make_dst {P : Program} {C : Cfg} {o : Oper} {k : IK} {args : List IOpd} {t : Nat} (hk : cOp P C o = some (k, args)) (hm : makesBox k = some t) : ∃ d, o.dst = some d ∧ C.B[t]? = some d := by
  have no : ∀ {xs : List Operand} {k' : IK}, cArgs C xs k' = some (k, args) → makesBox k' = none → False := fun h1 h2 => by
    obtain ⟨h3, _⟩ := cArgs2 h1
    rw [h3, h2] at hm; simp at hm
  unfold cOp at hk
  split at hk <;> first
    | exact (no hk rfl).elim
    | skip
  all_goals try (simp at hk; done)
  all_goals (repeat' split at hk)
  all_goals first
    | exact (no hk rfl).elim
    | (simp at hk; done)
    | (rename_i hj _
       simp only [Option.some.injEq, Prod.mk.injEq] at hk
       rw [← hk.1] at hm
       simp only [makesBox, Option.some.injEq] at hm; subst hm
       exact ⟨_, ‹_›, idxOf_get hj⟩)
    | (rename_i hj _
       obtain ⟨h1, _⟩ := cArgs2 hk
       rw [h1] at hm
       simp only [makesBox, Option.some.injEq] at hm; subst hm
       exact ⟨_, ‹_›, idxOf_get hj⟩)
    | (simp only [Option.some.injEq, Prod.mk.injEq] at hk; rw [← hk.1] at hm; simp [makesBox] at hm; done)
    | skip
  all_goals
    unfold cCall at hk
    (repeat' split at hk) <;> first
      | exact (no hk rfl).elim
      | (simp at hk; done)

theorem make_big {P : Program} {C : Cfg} {o : Oper} {k : IK} {args : List IOpd} (hk : cOp P C o = some (k, args)) : (∀ t z, k = .abx t z → z ≠ []) ∧ ∀ t m, k = .bbx t m → 0 < m := by
  by_cases hm : makesBox k = none
  · exact ⟨fun t z e => by rw [e] at hm; simp [makesBox] at hm, fun t m e => by rw [e] at hm; simp [makesBox] at hm⟩
  have no : ∀ {xs : List Operand} {k' : IK}, cArgs C xs k' = some (k, args) → makesBox k' = none → False := fun h1 h2 => by
    obtain ⟨h3, _⟩ := cArgs2 h1
    rw [h3] at hm; exact hm h2
  unfold cOp at hk
  split at hk <;> first
    | exact (no hk rfl).elim
    | skip
  all_goals try (simp at hk; done)
  all_goals (repeat' split at hk)
  all_goals first
    | exact (no hk rfl).elim
    | (simp at hk; done)
    | (rename_i hpos
       simp only [Option.some.injEq, Prod.mk.injEq] at hk
       rw [← hk.1]
       exact ⟨fun t z e => by simp only [IK.abx.injEq] at e; rw [← e.2]; rintro rfl; simp at hpos, fun t m e => by simp at e⟩)
    | (rename_i hpos
       obtain ⟨h1, _⟩ := cArgs2 hk
       rw [h1]
       exact ⟨fun t z e => by simp at e, fun t m e => by simp only [IK.bbx.injEq] at e; rw [← e.2]; exact hpos⟩)
    | (simp only [Option.some.injEq, Prod.mk.injEq] at hk; rw [← hk.1] at hm; exact absurd rfl hm)
    | skip
  all_goals
    unfold cCall at hk
    (repeat' split at hk) <;> first
      | exact (no hk rfl).elim
      | (simp at hk; done)

theorem cOper_ok {P : Program} {C : Cfg} {ops : Array Oper} {o : Oper} {io : IOp} (h : cOper P C ops o = some io) : IopOk C io := by
  obtain ⟨hdst, hg, hd, hk⟩ := cOper_spec h
  have hlt : ∀ d, io.dst = some d → d < C.nt := fun d hdd => (hd d (by rw [← hdst]; exact hdd)).1
  have hbd : ∀ d, io.dst = some d → d ∈ C.B → io.guard = none := fun d hdd hm => ((hd d (by rw [← hdst]; exact hdd)).2 hm).1
  by_cases hbad : io.k = .bad
  · refine ⟨fun a ha => ?_, fun t ht => by rw [hbad] at ht; simp [makesBox] at ht, fun d _ _ hb => absurd hbad hb, hbd, hlt, fun hm => by rw [hbad] at hm; simp [makesBox] at hm, ⟨fun t z e => by rw [hbad] at e; simp at e, fun t m e => by rw [hbad] at e; simp at e⟩⟩
    rcases hk with ⟨args, hk, rfl⟩ | _
    · exact cOpds_ok (cOp_ok hk).1 a ha
    · unfold cOper at h
      split at h
      · split at h
        · cases hq : cOp P C o with
          | some r =>
            obtain ⟨k, as⟩ := r
            rw [hq] at h; simp only [Option.some.injEq] at h; subst h
            exact cOpds_ok (cOp_ok hq).1 a ha
          | none =>
            rw [hq] at h; simp only [Option.some.injEq] at h; subst h
            simp at ha
        · simp at h
      · simp at h
  · rcases hk with ⟨args, hk, ha⟩ | hb
    case inr => exact absurd hb hbad
    refine ⟨fun a ha' => ?_, fun t ht => by rw [hdst]; exact make_dst hk ht, fun d hdd hm _ hB => ?_, hbd, hlt, fun hm => ?_, make_big hk⟩
    · rw [ha] at ha'; exact cOpds_ok (cOp_ok hk).1 a ha'
    · rw [hdst] at hdd
      rcases ((hd d hdd).2 hB).2 with ⟨t, ho⟩ | ⟨t, y, ho⟩
      · unfold cOp at hk
        rw [ho] at hk
        simp only [] at hk
        split at hk
        case h_2 => simp at hk
        rw [hdd] at hk
        simp only [] at hk
        split at hk
        · split at hk
          · simp only [Option.some.injEq, Prod.mk.injEq] at hk
            rw [← hk.1] at hm; simp [makesBox] at hm
          · simp at hk
        · rename_i hj
          rw [List.idxOf?_eq_none_iff] at hj
          exact hj hB
      · unfold cOp at hk
        rw [ho] at hk
        simp only [] at hk
        split at hk
        case h_2 => simp at hk
        rw [hdd] at hk
        simp only [] at hk
        split at hk
        · split at hk
          · obtain ⟨h1, _⟩ := cArgs2 hk
            rw [h1] at hm; simp [makesBox] at hm
          · simp at hk
        · rename_i hj
          rw [List.idxOf?_eq_none_iff] at hj
          exact hj hB
    · cases hmk : makesBox io.k with
      | none => exact absurd hmk hm
      | some t =>
        obtain ⟨d, h1, h2⟩ := make_dst hk hmk
        exact ((hd d h1).2 (List.mem_of_getElem? h2)).1

theorem cOpers_get {P : Program} {C : Cfg} {ops : Array Oper} : ∀ {l : List Oper} {ios : List IOp}, cOpers P C ops l = some ios → l.length = ios.length ∧ ∀ (i : Nat) (io : IOp), ios[i]? = some io → ∃ o, l[i]? = some o ∧ cOper P C ops o = some io
  | [], ios, h => by simp only [cOpers, Option.some.injEq] at h; subst h; exact ⟨rfl, fun i io h => by simp at h⟩
  | o :: os, ios, h => by
    simp only [cOpers] at h
    split at h
    · rename_i x xs h1 h2
      simp only [Option.some.injEq] at h; subst h
      obtain ⟨h3, h4⟩ := cOpers_get h2
      refine ⟨by simp [h3], fun i io hi => ?_⟩
      cases i with
      | zero => simp at hi; subst hi; exact ⟨o, by simp, h1⟩
      | succ i => simpa using h4 i io (by simpa using hi)
    · simp at h

/-! ### the places of boxes -/

theorem adrs_append : ∀ (xs ys : List IOp) (A : List (Nat × Nat)), adrs (xs ++ ys) A = adrs ys (adrs xs A)
  | [], ys, A => rfl
  | o :: xs, ys, A => by
    simp only [List.cons_append, adrs]
    split
    · split
      · exact adrs_append xs ys _
      · exact adrs_append xs ys _
    · exact adrs_append xs ys _

theorem adrs_other : ∀ (ys : List IOp) (A : List (Nat × Nat)) (d : Nat), d ∉ dsts ys → (adrs ys A).lookup d = A.lookup d
  | [], A, d, _ => rfl
  | o :: ys, A, d, h => by
    have h1 : d ∉ dsts ys := fun hm => h (by unfold dsts at hm ⊢; simp only [List.mem_filterMap] at hm ⊢; obtain ⟨a, ha, hb⟩ := hm; exact ⟨a, by simp [ha], hb⟩)
    have h2 : o.dst ≠ some d := fun e => h (by unfold dsts; simp [List.mem_filterMap]; exact .inl e)
    simp only [adrs]
    split
    · rename_i d' x hd' _ _
      split
      · rename_i t _
        rw [adrs_other ys _ d h1, List.lookup_cons]
        have : (d == d') = false := by
          simp only [beq_eq_false_iff_ne, ne_eq]; rintro rfl; exact h2 hd'
        rw [this]
      · exact adrs_other ys _ d h1
    · exact adrs_other ys _ d h1

end Go.Proofs.Ytpnbojehfngigaa.IM

/- The ideal machine: what the temporaries hold along a run in the text's order. -/
namespace Go.Proofs.Ytpnbojehfngigaa.IM
open Go
set_option linter.unusedVariables false
set_option linter.unusedSimpArgs false

theorem mem_dsts {ios : List IOp} {d : Nat} : d ∈ dsts ios ↔ ∃ (i : Nat) (io : IOp), ios[i]? = some io ∧ io.dst = some d := by
  unfold dsts
  rw [List.mem_filterMap]
  constructor
  · rintro ⟨io, h1, h2⟩
    obtain ⟨i, h3⟩ := List.getElem?_of_mem h1
    exact ⟨i, io, h3, h2⟩
  · rintro ⟨i, io, h1, h2⟩
    exact ⟨io, List.mem_of_getElem? h1, h2⟩

theorem dst_inj : ∀ {ios : List IOp}, (dsts ios).Nodup → ∀ {i j : Nat} {x y : IOp} {d : Nat}, ios[i]? = some x → ios[j]? = some y → x.dst = some d → y.dst = some d → i = j
  | [], _, i, j, x, y, d, hx, _, _, _ => by simp at hx
  | o :: os, hn, i, j, x, y, d, hx, hy, hdx, hdy => by
    have key : ∀ {d : Nat}, o.dst = some d → d ∉ dsts os := by
      intro d he hm
      unfold dsts at hn hm
      rw [List.filterMap_cons, he] at hn
      exact (List.nodup_cons.1 hn).1 hm
    have hn2 : (dsts os).Nodup := by
      unfold dsts at hn ⊢
      rw [List.filterMap_cons] at hn
      split at hn
      · exact hn
      · exact (List.nodup_cons.1 hn).2
    cases i with
    | zero =>
      simp only [List.getElem?_cons_zero, Option.some.injEq] at hx; subst hx
      cases j with
      | zero => rfl
      | succ j => exact absurd (mem_dsts.2 ⟨j, y, by simpa using hy, hdy⟩) (key hdx)
    | succ i =>
      cases j with
      | zero =>
        simp only [List.getElem?_cons_zero, Option.some.injEq] at hy; subst hy
        exact absurd (mem_dsts.2 ⟨i, x, by simpa using hx, hdx⟩) (key hdy)
      | succ j =>
        have := dst_inj hn2 (by simpa using hx) (by simpa using hy) hdx hdy
        omega

theorem take_get {ios : List IOp} {j i : Nat} {io : IOp} : (ios.take j)[i]? = some io ↔ i < j ∧ ios[i]? = some io := by
  rw [List.getElem?_take]
  by_cases h : i < j <;> simp [h]

theorem iexec_adr_out {k : IK} {xs : List EV} {bx bx' : List (List Value)} {H H' : Heap} {t o : Nat} (h : iexec k xs bx H = some (some (.adr t o), bx', H')) :
    (∃ off o', k = .fa off ∧ xs = [.adr t o'] ∧ o = o' + off) ∨ makesBox k = some t := by
  cases k with
  | fa off =>
    rcases xs with _ | ⟨y, _ | ⟨z, l⟩⟩
    · exact absurd (show (none : Option Res4) = _ from h) (by simp)
    · cases y with
      | val v =>
        simp only [iexec] at h
        cases hq : addP v off <;> rw [hq] at h <;> simp at h
      | adr u p =>
        simp only [iexec] at h
        split at h
        · split at h
          · simp only [Option.some.injEq, Prod.mk.injEq, EV.adr.injEq] at h
            obtain ⟨⟨rfl, rfl⟩, _⟩ := h
            exact .inl ⟨off, p, rfl, rfl, rfl⟩
          · simp at h
        · simp at h
      | _ => exact absurd (show (none : Option Res4) = _ from h) (by simp)
    · cases y <;> exact absurd (show (none : Option Res4) = _ from h) (by simp)
  | abx u z =>
    rcases xs with _ | ⟨y, l⟩
    · simp only [iexec, Option.some.injEq, Prod.mk.injEq, EV.adr.injEq] at h
      exact .inr (by rw [← h.1.1]; rfl)
    · exact absurd (show (none : Option Res4) = _ from h) (by simp)
  | bbx u m =>
    rcases xs with _ | ⟨y, _ | ⟨z, l⟩⟩
    · exact absurd (show (none : Option Res4) = _ from h) (by simp)
    · cases y with
      | val v =>
        simp only [iexec] at h
        split at h
        · simp only [Option.some.injEq, Prod.mk.injEq, EV.adr.injEq] at h
          exact .inr (by rw [← h.1.1]; rfl)
        · simp at h
      | _ => exact absurd (show (none : Option Res4) = _ from h) (by simp)
    · cases y <;> exact absurd (show (none : Option Res4) = _ from h) (by simp)
  | _ =>
    exfalso
    unfold iexec at h
    split at h <;> first | (simp at *; done) | skip
    all_goals (repeat' split at h) <;> first | (simp at h; done) | (simp_all; done) | skip

theorem iexec_fa_val {off : Nat} {xs : List EV} {bx bx' : List (List Value)} {H H' : Heap} {q : Value} (h : iexec (.fa off) xs bx H = some (some (.val q), bx', H')) : ∃ p, xs = [.val p] := by
  rcases xs with _ | ⟨y, _ | ⟨z, l⟩⟩
  · exact absurd (show (none : Option Res4) = _ from h) (by simp)
  · cases y with
    | val v => exact ⟨v, rfl⟩
    | adr u p =>
      simp only [iexec] at h
      split at h
      · split at h <;> simp at h
      · simp at h
    | _ => exact absurd (show (none : Option Res4) = _ from h) (by simp)
  · cases y <;> exact absurd (show (none : Option Res4) = _ from h) (by simp)

end Go.Proofs.Ytpnbojehfngigaa.IM

/- The ideal machine: places of boxes along a run in the text's order. -/
namespace Go.Proofs.Ytpnbojehfngigaa.IM
open Go
set_option linter.unusedVariables false
set_option linter.unusedSimpArgs false

theorem evs_one {env : Env} {vs : List (Option Value)} {as : List IOpd} {y : EV} (h : evs env vs as = some [y]) : ∃ a, as = [a] ∧ ev env vs a = some y := by
  match as with
  | [] => simp [evs] at h
  | [a] =>
    simp only [evs] at h
    split at h
    · rename_i y' ys h1 h2
      simp only [Option.some.injEq] at h2 h; subst h2
      simp only [List.cons.injEq, and_true] at h; subst h
      exact ⟨a, rfl, h1⟩
    · simp at h
  | a :: b :: l =>
    simp only [evs] at h
    split at h
    · rename_i y' ys h1 h2
      split at h2
      · simp only [Option.some.injEq] at h2 h; subst h2; simp at h
      · simp at h2
    · simp at h

theorem step_env {P : Program} {vs : List (Option Value)} {io : IOp} {env env' : Env} {bx bx' : List (List Value)} {H H' : Heap} (h : Step1 P vs io env bx H env' bx' H') :
    ∃ e1 x, env' = bind1 e1 io.dst x ∧ (e1 = env ∨ ∃ t, e1 = clr env t) ∧
      (∀ t o, x = some (.adr t o) → makesBox io.k = some t ∨ ∃ off a o', want env io.guard = some true ∧ io.k = .fa off ∧ io.args = [a] ∧ ev env vs a = some (.adr t o')) ∧
      (∀ v, x = some (.val v) → isFa io.k = true → ∃ a p, io.args = [a] ∧ ev env vs a = some (.val p)) := by
  have hr : ∀ (r : List Value) (t o : Nat), resEV r ≠ .adr t o := by
    intro r t o
    unfold resEV; split <;> simp
  cases h with
  | skip hw => exact ⟨env, none, rfl, .inl rfl, by simp, by simp⟩
  | @call xs args f r _ hw hxs hv hk hd =>
    exact ⟨env, _, rfl, .inl rfl, fun t o e => by simp only [Option.some.injEq] at e; exact absurd e (hr _ _ _), fun v _ e => by rw [hk] at e; simp [isFa] at e⟩
  | @callv xs args cap f r _ hw hxs hv hk hd =>
    exact ⟨env, _, rfl, .inl rfl, fun t o e => by simp only [Option.some.injEq] at e; exact absurd e (hr _ _ _), fun v _ e => by rw [hk] at e; simp [isFa] at e⟩
  | @exec xs x _ _ hw hxs hok hx =>
    refine ⟨clrk io.k env, x, rfl, ?_, fun t o e => ?_, fun v e hf => ?_⟩
    · cases hk : io.k with
      | abx t z => exact .inr ⟨t, rfl⟩
      | bbx t z => exact .inr ⟨t, rfl⟩
      | _ => exact .inl rfl
    · subst e
      rcases iexec_adr_out hx with ⟨off, o', h1, h2, h3⟩ | h1
      · rw [h2] at hxs
        obtain ⟨a, h4, h5⟩ := evs_one hxs
        exact .inr ⟨off, a, o', hw, h1, h4, h5⟩
      · exact .inl h1
    · subst e
      obtain ⟨off, hk⟩ : ∃ off, io.k = .fa off := by cases hk : io.k <;> simp_all [isFa]
      rw [hk] at hx
      obtain ⟨p, rfl⟩ := iexec_fa_val hx
      obtain ⟨a, h4, h5⟩ := evs_one hxs
      exact ⟨a, p, h4, h5⟩

def Wrote (ios : List IOp) (j d : Nat) : Prop := ∃ (i : Nat) (io : IOp), i < j ∧ ios[i]? = some io ∧ io.dst = some d

structure EnvAt (ios : List IOp) (j : Nat) (env : Env) : Prop where
  adr : ∀ d t o, lk env d = some (.adr t o) → (∃ (i : Nat) (io : IOp), i < j ∧ ios[i]? = some io ∧ io.dst = some d ∧ makesBox io.k = some t) ∨ (adrs (ios.take j) []).lookup d = some t
  val : ∀ d t x v, (adrs (ios.take j) []).lookup d = some t → lk env d = some x → x ≠ .val v
  dom : ∀ d, Wrote ios j d ↔ ∃ x, lk env d = some x

theorem clr_lk {env e1 : Env} (h : e1 = env ∨ ∃ t, e1 = clr env t) (d : Nat) : lk e1 d = lk env d ∨ ∃ t, lk e1 d = (lk env d).map (clr1 t) := by
  rcases h with rfl | ⟨t, rfl⟩
  · exact .inl rfl
  · exact .inr ⟨t, lk_clr env t d⟩

theorem clr_adr {env e1 : Env} (h : e1 = env ∨ ∃ t, e1 = clr env t) {d t o : Nat} (hl : lk e1 d = some (.adr t o)) : lk env d = some (.adr t o) := by
  rcases clr_lk h d with h1 | ⟨u, h1⟩
  · rw [← h1]; exact hl
  · rw [h1] at hl
    cases hq : lk env d with
    | none => rw [hq] at hl; simp at hl
    | some x =>
      rw [hq] at hl
      simp only [Option.map_some, Option.some.injEq] at hl
      cases x with
      | adr t' o' => simp only [clr1] at hl; split at hl <;> simp_all
      | val v => simp [clr1] at hl
      | tup v => simp [clr1] at hl
      | non => simp [clr1] at hl

theorem clr_val {env e1 : Env} (h : e1 = env ∨ ∃ t, e1 = clr env t) {d : Nat} {v : Value} (hl : lk e1 d = some (.val v)) : lk env d = some (.val v) := by
  rcases clr_lk h d with h1 | ⟨u, h1⟩
  · rw [← h1]; exact hl
  · rw [h1] at hl
    cases hq : lk env d with
    | none => rw [hq] at hl; simp at hl
    | some x =>
      rw [hq] at hl
      simp only [Option.map_some, Option.some.injEq] at hl
      cases x with
      | adr t' o' => simp only [clr1] at hl; split at hl <;> simp_all
      | val v => simpa [clr1] using hl
      | tup v => simp [clr1] at hl
      | non => simp [clr1] at hl

theorem clr_dom {env e1 : Env} (h : e1 = env ∨ ∃ t, e1 = clr env t) (d : Nat) : (∃ x, lk e1 d = some x) ↔ ∃ x, lk env d = some x := by
  rcases clr_lk h d with h1 | ⟨u, h1⟩
  · rw [h1]
  · rw [h1]; cases lk env d <;> simp

theorem bind1_lk {e1 : Env} {dst : Option Nat} {x : Option EV} (d : Nat) : lk (bind1 e1 dst x) d = if dst = some d then some (x.getD (.tup [])) else lk e1 d := by
  cases dst with
  | none => simp [bind1]
  | some d0 =>
    cases x <;> simp [bind1, lk]

theorem env_at {P : Program} {C : Cfg} {vs : List (Option Value)} {n : Nat} {late : List Nat} {ios : List IOp} {Es : Nat → Env} {Bs : Nat → List (List Value)} {Hs : Nat → Heap} (T : Trace P vs n late ios Es Bs Hs) (h0 : Es 0 = [])
    (nd : (dsts ios).Nodup) (ok : ∀ io ∈ ios, IopOk C io) : ∀ j, j ≤ ios.length → EnvAt ios j (Es j) := by
  intro j
  induction j with
  | zero =>
    intro _
    rw [h0]
    exact ⟨fun d t o h => by simp [lk] at h, fun d t x v _ h => by simp [lk] at h, fun d => ⟨fun ⟨i, io, h, _⟩ => by omega, fun ⟨x, h⟩ => by simp [lk] at h⟩⟩
  | succ j ih =>
    intro hj
    have IH := ih (by omega)
    obtain ⟨io, hio⟩ : ∃ io, ios[j]? = some io := ⟨_, List.getElem?_eq_getElem (by omega)⟩
    have hok := ok io (List.mem_of_getElem? hio)
    obtain ⟨e1, x, he, hc, hadr, hval⟩ := step_env (T.step j io hio)
    have htake : ios.take (j + 1) = ios.take j ++ [io] := by
      rw [List.take_add_one, hio]; rfl
    have hA : adrs (ios.take (j + 1)) [] = adrs [io] (adrs (ios.take j) []) := by rw [htake, adrs_append]
    have hfresh : ∀ d, io.dst = some d → ¬ Wrote ios j d := by
      rintro d hd ⟨i, x, hi, hx, hdx⟩
      have := dst_inj nd hx hio hdx hd
      omega
    have hnone : ∀ d, io.dst = some d → (adrs (ios.take j) []).lookup d = none := by
      intro d hd
      have : d ∉ dsts (ios.take j) := by
        rw [mem_dsts]
        rintro ⟨i, y, h1, h2⟩
        rw [take_get] at h1
        exact hfresh d hd ⟨i, y, h1.1, h1.2, h2⟩
      rw [adrs_other _ _ _ this]; rfl
    have hsame : ∀ d, io.dst ≠ some d → (adrs (ios.take (j + 1)) []).lookup d = (adrs (ios.take j) []).lookup d := by
      intro d hd
      rw [hA, adrs_other]
      rw [mem_dsts]
      rintro ⟨i, y, h1, h2⟩
      cases i with
      | zero => simp at h1; subst h1; exact hd h2
      | succ i => simp at h1
    -- what an operand says
    have hbox : ∀ a, a ∈ io.args → ∀ t o, ev (Es j) vs a = some (.adr t o) → boxOf (adrs (ios.take j) []) a = some t := by
      intro a ha t o hev
      have hoa := hok.args a ha
      cases a with
      | l d =>
        simp only [ev] at hev
        rcases IH.adr d t o hev with ⟨i, y, h1, h2, h3, h4⟩ | h1
        · obtain ⟨d', h5, h6⟩ := (ok y (List.mem_of_getElem? h2)).make t h4
          rw [h3] at h5; simp only [Option.some.injEq] at h5; subst h5
          exact absurd (List.mem_of_getElem? h6) hoa
        · exact h1
      | v k d =>
        simp only [ev] at hev
        split at hev
        · rename_i x' hl
          simp only [Option.some.injEq] at hev; subst hev
          rcases IH.adr d t o hl with ⟨i, y, h1, h2, h3, h4⟩ | h1
          · obtain ⟨d', h5, h6⟩ := (ok y (List.mem_of_getElem? h2)).make t h4
            rw [h3] at h5; simp only [Option.some.injEq] at h5; subst h5
            exact absurd (List.mem_of_getElem? h6) hoa.1
          · exact h1
        · split at hev <;> simp at hev
      | b u d =>
        simp only [ev, Option.some.injEq, EV.adr.injEq] at hev
        simp only [boxOf]; rw [hev.1]
      | c y => simp [ev] at hev
    have hnov : ∀ a, a ∈ io.args → ∀ t, boxOf (adrs (ios.take j) []) a = some t → ∀ v, ev (Es j) vs a ≠ some (.val v) := by
      intro a ha t hb v hev
      cases a with
      | l d => exact IH.val d t _ v hb hev rfl
      | v k d =>
        simp only [ev] at hev
        simp only [boxOf] at hb
        split at hev
        · rename_i x' hl
          simp only [Option.some.injEq] at hev; subst hev
          exact IH.val d t _ v hb hl rfl
        · rename_i hl
          have : Wrote ios j d := by
            by_cases hw : d ∈ dsts (ios.take j)
            · rw [mem_dsts] at hw
              obtain ⟨i, y, h1, h2⟩ := hw
              rw [take_get] at h1
              exact ⟨i, y, h1.1, h1.2, h2⟩
            · rw [adrs_other _ _ _ hw] at hb; simp at hb
          obtain ⟨x, hx⟩ := (IH.dom d).1 this
          rw [hl] at hx; simp at hx
      | b u d => simp [ev] at hev
      | c y => simp [boxOf] at hb
    refine ⟨fun d t o hl => ?_, fun d t x' v hl hx' => ?_, fun d => ?_⟩
    · rw [he, bind1_lk] at hl
      split at hl
      · rename_i hd
        cases x with
        | none => simp at hl
        | some y =>
          simp only [Option.getD_some, Option.some.injEq] at hl; subst hl
          rcases hadr t o rfl with h1 | ⟨off, a, o', _, h1, h2, h3⟩
          · exact .inl ⟨j, io, by omega, hio, hd, h1⟩
          · refine .inr ?_
            have hb := hbox a (by rw [h2]; simp) t o' h3
            rw [hA]
            simp only [adrs, hd, h1, h2, isFa, hb, List.lookup_cons, beq_self_eq_true]
      · rename_i hd
        rcases IH.adr d t o (clr_adr hc hl) with ⟨i, y, h1, h2, h3, h4⟩ | h1
        · exact .inl ⟨i, y, by omega, h2, h3, h4⟩
        · exact .inr (by rw [hsame d hd]; exact h1)
    · rintro rfl
      rw [he, bind1_lk] at hx'
      split at hx'
      · rename_i hd
        cases x with
        | none => simp at hx'
        | some y =>
          simp only [Option.getD_some, Option.some.injEq] at hx'; subst hx'
          rw [hA] at hl
          simp only [adrs, hd] at hl
          cases hf : isFa io.k with
          | false =>
            rw [hf] at hl
            simp only [adrs] at hl
            rw [hnone d hd] at hl; simp at hl
          | true =>
            obtain ⟨a, p, h1, h2⟩ := hval v rfl hf
            rw [hf, h1] at hl
            simp only at hl
            cases hb : boxOf (adrs (ios.take j) []) a with
            | none =>
              rw [hb] at hl; simp only [adrs] at hl
              rw [hnone d hd] at hl; simp at hl
            | some u => exact hnov a (by rw [h1]; simp) u hb p h2
      · rename_i hd
        rw [hsame d hd] at hl
        exact IH.val d t _ v hl (clr_val hc hx') rfl
    · rw [he, bind1_lk]
      constructor
      · rintro ⟨i, y, h1, h2, h3⟩
        by_cases hd : io.dst = some d
        · rw [if_pos hd]; exact ⟨_, rfl⟩
        · rw [if_neg hd, clr_dom hc]
          refine (IH.dom d).1 ⟨i, y, ?_, h2, h3⟩
          by_cases hij : i = j
          · subst hij; rw [hio] at h2; simp only [Option.some.injEq] at h2; subst h2; exact absurd h3 hd
          · omega
      · rintro ⟨y, hy⟩
        split at hy
        · rename_i hd; exact ⟨j, io, by omega, hio, hd⟩
        · obtain ⟨i, z, h1, h2, h3⟩ := (IH.dom d).2 ((clr_dom hc d).1 ⟨y, hy⟩)
          exact ⟨i, z, by omega, h2, h3⟩

end Go.Proofs.Ytpnbojehfngigaa.IM

/- The ideal machine: a run in the text's order, with what each step leans on. -/
namespace Go.Proofs.Ytpnbojehfngigaa.IM
open Go
set_option linter.unusedVariables false
set_option linter.unusedSimpArgs false

structure Steps (P : Program) (C : Cfg) (vs : List (Option Value)) (n : Nat) (late : List Nat) (ops : List Oper) (ios : List IOp) (Es : Nat → Env) (Bs : Nat → List (List Value)) (Hs : Nat → Heap) (ks : Nat → Kd) (xs : Nat → Option EV) : Prop where
  T : Trace P vs n late ios Es Bs Hs
  h0 : Es 0 = []
  ord : Order ops ios n late
  ok : ∀ io ∈ ios, IopOk C io
  env : ∀ j io, ios[j]? = some io → Es (j + 1) = bind1 ((ks j).env (Es j)) io.dst (xs j)
  bx : ∀ j io, ios[j]? = some io → Bs (j + 1) = (ks j).bx (Bs j)
  hp : ∀ j io, ios[j]? = some io → Hs (j + 1) = (ks j).h (Hs (j + 1)) (Hs j)
  says : ∀ j io, ios[j]? = some io → (ks j).says vs io (Es j) (Bs j)
  again : ∀ j io, ios[j]? = some io → ∀ (vs2 : List (Option Value)) (env2 : Env) (bx2 : List (List Value)) (H2 : Heap), (∀ a ∈ io.args, ev env2 vs2 a = ev (Es j) vs a) → want env2 io.guard = want (Es j) io.guard → (ks j).alike (Bs j) bx2 (Hs j) H2 →
    Step1 P vs2 io env2 bx2 H2 (bind1 ((ks j).env env2) io.dst (xs j)) ((ks j).bx bx2) ((ks j).h (Hs (j + 1)) H2)

theorem steps_of {P : Program} {C : Cfg} {vs : List (Option Value)} {n : Nat} {late : List Nat} {ops : List Oper} {ios : List IOp} {Es : Nat → Env} {Bs : Nat → List (List Value)} {Hs : Nat → Heap} (T : Trace P vs n late ios Es Bs Hs) (h0 : Es 0 = [])
    (ord : Order ops ios n late) (ok : ∀ io ∈ ios, IopOk C io) : ∃ ks xs, Steps P C vs n late ops ios Es Bs Hs ks xs := by
  have key : ∀ j, ∃ kx : Kd × Option EV, ∀ io, ios[j]? = some io → Es (j + 1) = bind1 (kx.1.env (Es j)) io.dst kx.2 ∧ Bs (j + 1) = kx.1.bx (Bs j) ∧ Hs (j + 1) = kx.1.h (Hs (j + 1)) (Hs j) ∧ kx.1.says vs io (Es j) (Bs j) ∧
      ∀ (vs2 : List (Option Value)) (env2 : Env) (bx2 : List (List Value)) (H2 : Heap), (∀ a ∈ io.args, ev env2 vs2 a = ev (Es j) vs a) → want env2 io.guard = want (Es j) io.guard → kx.1.alike (Bs j) bx2 (Hs j) H2 →
        Step1 P vs2 io env2 bx2 H2 (bind1 (kx.1.env env2) io.dst kx.2) (kx.1.bx bx2) (kx.1.h (Hs (j + 1)) H2) := by
    intro j
    cases hj : ios[j]? with
    | none => exact ⟨(.pure, none), fun io h => by simp at h⟩
    | some io =>
      obtain ⟨k, x, h1, h2, h3, h4, h5⟩ := step_local (T.step j io hj)
      exact ⟨(k, x), fun io' h => by simp only [Option.some.injEq] at h; subst h; exact ⟨h1, h2, h3, h4, h5⟩⟩
  obtain ⟨f, hf⟩ := Classical.axiomOfChoice key
  exact ⟨fun j => (f j).1, fun j => (f j).2, T, h0, ord, ok, fun j io h => (hf j io h).1, fun j io h => (hf j io h).2.1, fun j io h => (hf j io h).2.2.1, fun j io h => (hf j io h).2.2.2.1, fun j io h => (hf j io h).2.2.2.2⟩

section
variable {P : Program} {C : Cfg} {vs : List (Option Value)} {n : Nat} {late : List Nat} {ops : List Oper} {ios : List IOp} {Es : Nat → Env} {Bs : Nat → List (List Value)} {Hs : Nat → Heap} {ks : Nat → Kd} {xs : Nat → Option EV}

theorem Steps.envAt (S : Steps P C vs n late ops ios Es Bs Hs ks xs) {j : Nat} (hj : j ≤ ios.length) : EnvAt ios j (Es j) := env_at S.T S.h0 S.ord.nd S.ok j hj

theorem wrote_take {j d : Nat} : Wrote ios j d ↔ d ∈ dsts (ios.take j) := by
  rw [mem_dsts]
  constructor
  · rintro ⟨i, io, h1, h2, h3⟩; exact ⟨i, io, take_get.2 ⟨h1, h2⟩, h3⟩
  · rintro ⟨i, io, h1, h2⟩; rw [take_get] at h1; exact ⟨i, io, h1.1, h1.2, h2⟩

/-- What is known of a temporary at a step is known of it at all. -/
theorem Steps.lookup (S : Steps P C vs n late ops ios Es Bs Hs ks xs) {j d : Nat} (hw : Wrote ios j d) : (adrs ios []).lookup d = (adrs (ios.take j) []).lookup d := by
  obtain ⟨i, io, h1, h2, h3⟩ := hw
  have e : ios = ios.take j ++ ios.drop j := (List.take_append_drop j ios).symm
  have : d ∉ dsts (ios.drop j) := by
    rw [mem_dsts]
    rintro ⟨k, y, h4, h5⟩
    rw [List.getElem?_drop] at h4
    have := dst_inj S.ord.nd h2 h4 h3 h5
    omega
  rw [← adrs_other (ios.drop j) (adrs (ios.take j) []) d this, ← adrs_append, ← e]

theorem rdTmps_arg {io : IOp} {a : IOpd} {d : Nat} (ha : a ∈ io.args) (hd : a = .l d ∨ (∃ k, a = .v k d) ∨ ∃ t, a = .b t d) : d ∈ rdTmps io := by
  unfold rdTmps
  rw [List.mem_append]
  refine .inl (List.mem_filterMap.2 ⟨a, ha, ?_⟩)
  rcases hd with rfl | ⟨k, rfl⟩ | ⟨t, rfl⟩ <;> rfl

/-- A temporary that may hold a box's place by a later operation is not read ahead of it. -/
theorem Steps.look_wrote (S : Steps P C vs n late ops ios Es Bs Hs ks xs) {j d t : Nat} {io : IOp} (hio : ios[j]? = some io) (hf : isFa io.k = false) (hd : d ∈ rdTmps io) (hl : (adrs ios []).lookup d = some t) : Wrote ios j d := by
  -- who wrote the entry
  have key : ∀ (ys : List IOp) (A : List (Nat × Nat)), (adrs ys A).lookup d = some t → A.lookup d = some t ∨ ∃ (i : Nat) (y : IOp), ys[i]? = some y ∧ isFa y.k = true ∧ y.dst = some d := by
    intro ys
    induction ys with
    | nil => intro A h; exact .inl h
    | cons y ys ih =>
      intro A h
      simp only [adrs] at h
      have rest : ∀ {A' : List (Nat × Nat)}, (adrs ys A').lookup d = some t → A'.lookup d = some t ∨ ∃ (i : Nat) (z : IOp), (y :: ys)[i]? = some z ∧ isFa z.k = true ∧ z.dst = some d := by
        intro A' h'
        rcases ih A' h' with h1 | ⟨i, z, h1, h2, h3⟩
        · exact .inl h1
        · exact .inr ⟨i + 1, z, by simpa using h1, h2, h3⟩
      split at h
      · rename_i d' x hd' hfa _
        split at h
        · rename_i u _
          rcases rest h with h1 | h1
          · rw [List.lookup_cons] at h1
            by_cases hdd : d = d'
            · subst hdd; exact .inr ⟨0, y, rfl, hfa, hd'⟩
            · rw [(by simpa using hdd : (d == d') = false)] at h1; exact .inl h1
          · exact .inr h1
        · exact rest h
      · exact rest h
  rcases key ios [] hl with h1 | ⟨i, y, h1, h2, h3⟩
  · simp at h1
  · refine ⟨i, y, ?_, h1, h3⟩
    rcases Nat.lt_trichotomy i j with h4 | h4 | h4
    · exact h4
    · subst h4; rw [hio] at h1; simp only [Option.some.injEq] at h1; subst h1; rw [hf] at h2; simp at h2
    · exact absurd hd (S.ord.fa j i io y d h4 hio h1 h2 h3)

theorem Steps.box_of_adr (S : Steps P C vs n late ops ios Es Bs Hs ks xs) {j t o : Nat} {io : IOp} (hio : ios[j]? = some io) {a : IOpd} (ha : a ∈ io.args) (he : ev (Es j) vs a = some (.adr t o)) : boxOf (adrs ios []) a = some t := by
  have hj : j ≤ ios.length := by have := (List.getElem?_eq_some_iff.1 hio).1; omega
  have EA := S.envAt hj
  have hok := (S.ok io (List.mem_of_getElem? hio)).args a ha
  have tmp : ∀ d, d ∉ C.B → lk (Es j) d = some (.adr t o) → (adrs ios []).lookup d = some t := by
    intro d hd hl
    rcases EA.adr d t o hl with ⟨i, y, h1, h2, h3, h4⟩ | h1
    · obtain ⟨d', h5, h6⟩ := (S.ok y (List.mem_of_getElem? h2)).make t h4
      rw [h3] at h5; simp only [Option.some.injEq] at h5; subst h5
      exact absurd (List.mem_of_getElem? h6) hd
    · rw [S.lookup ((EA.dom d).2 ⟨_, hl⟩)]; exact h1
  cases a with
  | l d => simp only [ev] at he; exact tmp d hok he
  | v k d =>
    simp only [ev] at he
    split at he
    · rename_i x' hl
      simp only [Option.some.injEq] at he; subst he
      exact tmp d hok.1 hl
    · split at he <;> simp at he
  | b u d =>
    simp only [ev, Option.some.injEq, EV.adr.injEq] at he
    simp only [boxOf]; rw [he.1]
  | c y => simp [ev] at he

theorem Steps.nobox_of_val (S : Steps P C vs n late ops ios Es Bs Hs ks xs) {j : Nat} {v : Value} {io : IOp} (hio : ios[j]? = some io) (hf : isFa io.k = false) {a : IOpd} (ha : a ∈ io.args) (he : ev (Es j) vs a = some (.val v)) : boxOf (adrs ios []) a = none := by
  have hj : j ≤ ios.length := by have := (List.getElem?_eq_some_iff.1 hio).1; omega
  have EA := S.envAt hj
  have tmp : ∀ d, d ∈ rdTmps io → (lk (Es j) d = some (.val v) ∨ lk (Es j) d = none) → (adrs ios []).lookup d = none := by
    intro d hd hl
    cases hq : (adrs ios []).lookup d with
    | none => rfl
    | some t =>
      have hw := S.look_wrote hio hf hd hq
      obtain ⟨x, hx⟩ := (EA.dom d).1 hw
      rw [S.lookup hw] at hq
      rcases hl with hl | hl
      · exact absurd rfl (EA.val d t _ v hq hl)
      · rw [hl] at hx; simp at hx
  cases a with
  | l d => simp only [ev] at he; exact tmp d (rdTmps_arg ha (.inl rfl)) (.inl he)
  | v k d =>
    simp only [ev] at he
    split at he
    · rename_i x' hl
      simp only [Option.some.injEq] at he; subst he
      exact tmp d (rdTmps_arg ha (.inr (.inl ⟨k, rfl⟩))) (.inl hl)
    · rename_i hl
      exact tmp d (rdTmps_arg ha (.inr (.inl ⟨k, rfl⟩))) (.inr hl)
  | b u d => simp [ev] at he
  | c y => rfl

/-! ### what the kinds say of the text -/

theorem Steps.touch_rd (S : Steps P C vs n late ops ios Es Bs Hs ks xs) {j t : Nat} {io : IOp} (hio : ios[j]? = some io) (hk : ks j = .rd t) : touch (adrs ios []) io = some (t, false) := by
  have hs := S.says j io hio
  rw [hk] at hs
  obtain ⟨h1, ⟨a, o, h2, h3⟩, _⟩ := hs
  have hb := S.box_of_adr hio (a := a) (by rw [h2]; simp) h3
  unfold touch
  rw [h2]
  cases hq : io.k <;> rw [hq] at h1 <;> simp [isFa, isLd] at h1 <;> simp [hb]

theorem Steps.touch_wr (S : Steps P C vs n late ops ios Es Bs Hs ks xs) {j t : Nat} {cs : List Value} {io : IOp} (hio : ios[j]? = some io) (hk : ks j = .wr t cs) : touch (adrs ios []) io = some (t, true) := by
  have hs := S.says j io hio
  rw [hk] at hs
  obtain ⟨⟨m, h1⟩, ⟨a, b, o, h2, h3⟩, _⟩ := hs
  have hb := S.box_of_adr hio (a := a) (by rw [h2]; simp) h3
  unfold touch
  rw [h2, h1]
  simp [hb]

theorem Steps.touch_mk (S : Steps P C vs n late ops ios Es Bs Hs ks xs) {j t : Nat} {cs : List Value} {io : IOp} (hio : ios[j]? = some io) (hk : ks j = .mk t cs) : touch (adrs ios []) io = some (t, true) := by
  have hs := S.says j io hio
  rw [hk] at hs
  have hs := hs.1
  unfold touch
  cases hq : io.k <;> rw [hq] at hs <;> simp [makesBox] at hs <;> simp [hs]

theorem Steps.heapy_ldh (S : Steps P C vs n late ops ios Es Bs Hs ks xs) {j m : Nat} {p : Value} {io : IOp} (hio : ios[j]? = some io) (hk : ks j = .ldh p m) : heapy (adrs ios []) io = true := by
  have hs := S.says j io hio
  rw [hk] at hs
  obtain ⟨⟨g, h1⟩, a, h2, h3⟩ := hs
  have hb := S.nobox_of_val hio (by rw [h1]; rfl) (a := a) (by rw [h2]; simp) h3
  unfold heapy touch
  rw [h1, h2]
  simp [hb, memClass]

theorem Steps.heapy_heap (S : Steps P C vs n late ops ios Es Bs Hs ks xs) {j : Nat} {io : IOp} (hio : ios[j]? = some io) (hk : ks j = .heap) : heapy (adrs ios []) io = true := by
  have hs := S.says j io hio
  rw [hk] at hs
  obtain ⟨h1, h2, h3⟩ := hs
  have ht : touch (adrs ios []) io = none := by
    unfold touch
    cases hq : io.k with
    | st m =>
      obtain ⟨a, b, v, h4, h5⟩ := h3 m hq
      have hb := S.nobox_of_val hio (by rw [hq]; rfl) (a := a) (by rw [h4]; simp) h5
      rw [h4]; simp [hb]
    | ld m g => rw [hq] at h2; simp [isLd] at h2
    | fa off => rw [hq] at h1; simp [memClass] at h1
    | abx t z => rw [hq] at h1; simp [memClass] at h1
    | bbx t z => rw [hq] at h1; simp [memClass] at h1
    | _ => rfl
  unfold heapy
  rw [ht]; simp [h1]

end
end Go.Proofs.Ytpnbojehfngigaa.IM

/- The ideal machine: boxes and heap along a run in the text's order, and what a listing tells. -/
namespace Go.Proofs.Ytpnbojehfngigaa.IM
open Go
set_option linter.unusedVariables false
set_option linter.unusedSimpArgs false

section
variable {P : Program} {C : Cfg} {vs : List (Option Value)} {n : Nat} {late : List Nat} {ops : List Oper} {ios : List IOp} {Es : Nat → Env} {Bs : Nat → List (List Value)} {Hs : Nat → Heap} {ks : Nat → Kd} {xs : Nat → Option EV}

def BoxW (ks : Nat → Kd) (j t : Nat) : Prop := ∃ cs, ks j = .wr t cs ∨ ks j = .mk t cs
def Touches (ks : Nat → Kd) (j t : Nat) : Prop := ks j = .rd t ∨ BoxW ks j t

theorem Steps.io (S : Steps P C vs n late ops ios Es Bs Hs ks xs) {j : Nat} (hj : j < ios.length) : ∃ io, ios[j]? = some io := ⟨_, List.getElem?_eq_getElem hj⟩

theorem Steps.touch (S : Steps P C vs n late ops ios Es Bs Hs ks xs) {j t : Nat} {io : IOp} (hio : ios[j]? = some io) (h : Touches ks j t) : ∃ b, touch (adrs ios []) io = some (t, b) ∧ (BoxW ks j t → b = true) := by
  rcases h with h | ⟨cs, h | h⟩
  · refine ⟨false, S.touch_rd hio h, fun ⟨cs, h2⟩ => ?_⟩
    rcases h2 with h2 | h2 <;> rw [h] at h2 <;> simp at h2
  · exact ⟨true, S.touch_wr hio h, fun _ => rfl⟩
  · exact ⟨true, S.touch_mk hio h, fun _ => rfl⟩

theorem Steps.preds_box (S : Steps P C vs n late ops ios Es Bs Hs ks xs) {i j t : Nat} (hij : i < j) (hj : j < ios.length) (hi : Touches ks i t) (hjt : Touches ks j t) (hw : BoxW ks i t ∨ BoxW ks j t) : preds (ancs ops) j i = true := by
  obtain ⟨x, hx⟩ := S.io (show i < ios.length by omega)
  obtain ⟨y, hy⟩ := S.io hj
  obtain ⟨b1, h1, h2⟩ := S.touch hx hi
  obtain ⟨b2, h3, h4⟩ := S.touch hy hjt
  refine S.ord.clash i j x y hij hx hy ?_
  unfold clash
  rw [h1, h3]
  have : (b1 || b2) = true := by rcases hw with h | h <;> simp [h2, h4, h]
  simp [this]

theorem Steps.preds_dep (S : Steps P C vs n late ops ios Es Bs Hs ks xs) {i j d : Nat} {x y : IOp} (hij : i < j) (hx : ios[i]? = some x) (hy : ios[j]? = some y) (h : (x.dst = some d ∧ d ∈ rdTmps y) ∨ (y.dst = some d ∧ d ∈ rdTmps x)) : preds (ancs ops) j i = true := by
  refine S.ord.clash i j x y hij hx hy ?_
  unfold clash
  rcases h with ⟨h1, h2⟩ | ⟨h1, h2⟩
  · rw [h1]; simp [h2]
  · rw [h1]; simp [h2]

/-- Operations on the heap, from n on. -/
theorem Steps.preds_heap (S : Steps P C vs n late ops ios Es Bs Hs ks xs) {i j : Nat} (hij : i < j) (hn : n ≤ j) (hj : j < ios.length) (hi : ks i = .heap) (hjk : ks j = .heap ∨ ∃ p m, ks j = .ldh p m) : preds (ancs ops) j i = true := by
  obtain ⟨x, hx⟩ := S.io (show i < ios.length by omega)
  obtain ⟨y, hy⟩ := S.io hj
  have h1 := S.heapy_heap hx hi
  have h2 : heapy (adrs ios []) y = true := by
    rcases hjk with h | ⟨p, m, h⟩
    · exact S.heapy_heap hy h
    · exact S.heapy_ldh hy h
  rcases S.ord.heap i j x y hij hn hx hy h1 h2 with h3 | ⟨h3, _⟩
  · exact h3
  · have hs := S.says i x hx
    rw [hi] at hs
    rw [hs.2.1] at h3; simp at h3

theorem Steps.preds_ldh (S : Steps P C vs n late ops ios Es Bs Hs ks xs) {i j m : Nat} {p : Value} (hij : i < j) (hn : n ≤ j) (hj : j < ios.length) (hi : ks i = .ldh p m) (hjk : ks j = .heap) : preds (ancs ops) j i = true ∨ i ∈ late := by
  obtain ⟨x, hx⟩ := S.io (show i < ios.length by omega)
  obtain ⟨y, hy⟩ := S.io hj
  rcases S.ord.heap i j x y hij hn hx hy (S.heapy_ldh hx hi) (S.heapy_heap hy hjk) with h3 | ⟨_, h3⟩
  · exact .inl h3
  · exact .inr h3

theorem Steps.late_rd (S : Steps P C vs n late ops ios Es Bs Hs ks xs) {i j m : Nat} {p : Value} (hij : i < j) (hj : j ≤ ios.length) (hi : ks i = .ldh p m) (hl : i ∈ late) : (Hs j).rd p m = (Hs i).rd p m := by
  obtain ⟨x, hx⟩ := S.io (show i < ios.length by omega)
  have hs := S.says i x hx
  rw [hi] at hs
  obtain ⟨⟨g, h1⟩, a, h2, h3⟩ := hs
  exact S.T.late i hl x m g p hx h1 (by rw [h2]; simp [evs, h3]) j hij hj

theorem Steps.box_step (S : Steps P C vs n late ops ios Es Bs Hs ks xs) {j t : Nat} (hj : j < ios.length) (h : ¬ BoxW ks j t) : (Bs (j + 1))[t]? = (Bs j)[t]? := by
  obtain ⟨io, hio⟩ := S.io hj
  rw [S.bx j io hio]
  cases hk : ks j with
  | wr u cs =>
    simp only [Kd.bx]
    exact List.getElem?_set_ne (by rintro rfl; exact h ⟨cs, .inl hk⟩)
  | mk u cs =>
    simp only [Kd.bx]
    exact List.getElem?_set_ne (by rintro rfl; exact h ⟨cs, .inr hk⟩)
  | _ => rfl

theorem Steps.box_const (S : Steps P C vs n late ops ios Es Bs Hs ks xs) {t : Nat} : ∀ {j j' : Nat}, j ≤ j' → j' ≤ ios.length → (∀ i, j ≤ i → i < j' → ¬ BoxW ks i t) → (Bs j')[t]? = (Bs j)[t]? := by
  intro j j' h
  induction h with
  | refl => intro _ _; rfl
  | @step m hm ih =>
    intro hl hw
    rw [S.box_step (by omega) (hw m hm (by omega))]
    exact ih (by omega) fun i h1 h2 => hw i h1 (by omega)

theorem Steps.bx_len (S : Steps P C vs n late ops ios Es Bs Hs ks xs) : ∀ {j : Nat}, j ≤ ios.length → (Bs j).length = (Bs 0).length := by
  intro j
  induction j with
  | zero => intro _; rfl
  | succ j ih =>
    intro hj
    obtain ⟨io, hio⟩ := S.io (show j < ios.length by omega)
    rw [S.bx j io hio, ← ih (by omega)]
    cases ks j <;> simp [Kd.bx]

theorem Steps.heap_const (S : Steps P C vs n late ops ios Es Bs Hs ks xs) : ∀ {j j' : Nat}, j ≤ j' → j' ≤ ios.length → (∀ i, j ≤ i → i < j' → ks i ≠ .heap) → Hs j' = Hs j := by
  intro j j' h
  induction h with
  | refl => intro _ _; rfl
  | @step m hm ih =>
    intro hl hw
    obtain ⟨io, hio⟩ := S.io (show m < ios.length by omega)
    rw [S.hp m io hio]
    have hk := hw m hm (by omega)
    rw [show (ks m).h (Hs (m + 1)) (Hs m) = Hs m by cases hq : ks m <;> first | rfl | exact absurd hq hk]
    exact ih (by omega) fun i h1 h2 => hw i h1 (by omega)

theorem Gent.trans {H1 H2 H3 : Heap} (h : Gent H1 H2) (k : Gent H2 H3) : Gent H1 H3 :=
  ⟨Nat.le_trans h.1 k.1, fun b hb => by rw [k.2 b (Nat.lt_of_lt_of_le hb h.1), h.2 b hb]⟩

theorem Steps.gent (S : Steps P C vs n late ops ios Es Bs Hs ks xs) : ∀ {i j : Nat}, i ≤ j → j ≤ n → j ≤ ios.length → Gent (Hs i) (Hs j) := by
  intro i j h
  induction h with
  | refl => intro _ _; exact ⟨Nat.le_refl _, fun _ _ => rfl⟩
  | @step m hm ih =>
    intro h1 h2
    exact (ih (by omega) (by omega)).trans (S.T.gent m (by omega) (by omega))

/-- What a temporary holds stays, but for places of boxes that are made anew. -/
theorem Steps.keep_val (S : Steps P C vs n late ops ios Es Bs Hs ks xs) {i d : Nat} {io : IOp} (hio : ios[i]? = some io) (hd : io.dst = some d) : ∀ {j : Nat}, i + 1 ≤ j → j ≤ ios.length → ∀ {x : EV}, lk (Es j) d = some x → lk (Es (i + 1)) d = some x ∨ x = .non := by
  intro j h
  induction h with
  | refl => intro _ x hx; exact .inl hx
  | @step m hm ih =>
    intro hl x hx
    obtain ⟨im, him⟩ := S.io (show m < ios.length by omega)
    rw [S.env m im him, bind1_lk] at hx
    have hm : i + 1 ≤ m := hm
    have hne : im.dst ≠ some d := fun e => by have := dst_inj S.ord.nd hio him hd e; omega
    rw [if_neg hne] at hx
    have hc : (ks m).env (Es m) = Es m ∨ ∃ t, (ks m).env (Es m) = clr (Es m) t := by
      cases hq : ks m with
      | mk t cs => exact .inr ⟨t, rfl⟩
      | _ => exact .inl rfl
    rcases clr_lk hc d with h1 | ⟨t, h1⟩
    · rw [h1] at hx; exact ih (by omega) hx
    · rw [h1] at hx
      cases hq : lk (Es m) d with
      | none => rw [hq] at hx; simp at hx
      | some y =>
        rw [hq] at hx
        simp only [Option.map_some, Option.some.injEq] at hx
        rcases ih (by omega) hq with h2 | h2
        · cases y with
          | adr u o =>
            simp only [clr1] at hx
            split at hx
            · exact .inr hx.symm
            · subst hx; exact .inl h2
          | val v => simp only [clr1] at hx; subst hx; exact .inl h2
          | tup v => simp only [clr1] at hx; subst hx; exact .inl h2
          | non => simp only [clr1] at hx; subst hx; exact .inl h2
        · subst h2; simp only [clr1] at hx; exact .inr hx.symm

end
end Go.Proofs.Ytpnbojehfngigaa.IM

/- The ideal machine: the heap while a region's operations come in a drawn order. -/
namespace Go.Proofs.Ytpnbojehfngigaa.IM
open Go
set_option linter.unusedVariables false
set_option linter.unusedSimpArgs false

/-- The heap at a listing: either no operation from n on has touched the heap, or all up to the last that has are listed. -/
inductive HInv (n N : Nat) (Hs : Nat → Heap) (ks : Nat → Kd) (l : Nat → Prop) (w : World) (ι : Inj) (K : Nat → Nat) : Prop where
  | early : K = (fun j => (Hs (min j (min n N))).length) → (∀ i, i ≤ min n N → Sim (upto ι (Hs i).length) (Hs i) w) → (∀ b L, ι b = some L → b < (Hs (min n N)).length) →
      (∀ j, j < min n N → ¬ l j → ∀ b, (Hs j).length ≤ b → b < (Hs (j + 1)).length → ι b = none) → (∀ j, l j → ks j = .heap → j < min n N) → HInv n N Hs ks l w ι K
  | later (i0 : Nat) : n ≤ i0 → i0 < N → ks i0 = .heap → l i0 → K = (fun _ => (Hs (i0 + 1)).length) → (∀ j, j < i0 + 1 → ks j = .heap → l j) → (∀ j, i0 + 1 ≤ j → ks j = .heap → ¬ l j) → Sim ι (Hs (i0 + 1)) w → HInv n N Hs ks l w ι K

section
variable {P : Program} {C : Cfg} {vs : List (Option Value)} {n : Nat} {late : List Nat} {ops : List Oper} {ios : List IOp} {Es : Nat → Env} {Bs : Nat → List (List Value)} {Hs : Nat → Heap} {ks : Nat → Kd} {xs : Nat → Option EV}
  {l : Nat → Prop} {w : World} {ι : Inj} {K : Nat → Nat}

def HAlike (k : Kd) (H H2 : Heap) : Prop := match k with
  | .heap => H2 = H
  | .ldh p m => H2.rd p m = H.rd p m
  | _ => True

structure View (n N : Nat) (Hs : Nat → Heap) (ks : Nat → Kd) (l : Nat → Prop) (w : World) (ι : Inj) (K : Nat → Nat) (j v : Nat) : Prop where
  sim : Sim (upto ι (Hs v).length) (Hs v) w
  le : ∀ i, i ≤ j → K i ≤ (Hs v).length
  here : v ≤ min n N ∨ ∃ i0, v = i0 + 1 ∧ l i0 ∧ ks i0 = .heap
  alike : HAlike (ks j) (Hs j) (Hs v)
  next : ∀ (E : Nat → Prop) (ι' : Inj) (w' : World), (∀ r b L, E r → ι b = some L → L.r ≠ r) → Sim ι' ((ks j).h (Hs (j + 1)) (Hs v)) w' → Ext E (upto ι (Hs v).length) ι' (Hs v) ((ks j).h (Hs (j + 1)) (Hs v)) w w' →
    ∃ ι2 K2, HInv n N Hs ks (fun i => l i ∨ i = j) w' ι2 K2 ∧ (∀ i, Sub (upto ι (K i)) (upto ι2 (K2 i))) ∧ Sub ι' (upto ι2 (K2 (j + 1))) ∧ Sub ι ι2 ∧ (∀ b L, ι2 b = some L → ι b = some L ∨ ((Hs v).length ≤ b ∧ ι' b = some L))

theorem HInv.view (S : Steps P C vs n late ops ios Es Bs Hs ks xs) (h : HInv n ios.length Hs ks l w ι K) {j : Nat} (hj : j < ios.length) (hn : ¬ l j)
    (hp : ∀ i, preds (ancs ops) j i = true → l i) (hl : ∀ k, k < ios.length → l k → ∀ i, preds (ancs ops) k i = true → l i) (hlt : ∀ k, l k → k < ios.length) : ∃ v, View n ios.length Hs ks l w ι K j v := by
  cases h with
  | early hK hs hd hf hlow =>
    subst hK
    have hg : ∀ i k, i ≤ k → k ≤ min n ios.length → Gent (Hs i) (Hs k) := fun i k h1 h2 => S.gent h1 (by omega) (by omega)
    -- from n on nothing unlisted stands ahead
    have hconst : n ≤ j → (ks j = .heap ∨ ∃ p m, ks j = .ldh p m) → Hs j = Hs (min n ios.length) := fun h1 h2 => by
      refine S.heap_const (by omega) (by omega) fun i h3 h4 hk => ?_
      have := hlow i (hp i (S.preds_heap h4 h1 hj hk h2)) hk
      omega
    refine ⟨min j (min n ios.length), ⟨hs _ (by omega), fun i hi => (hg _ _ (by omega) (by omega)).1, .inl (Nat.min_le_right _ _), ?_, fun E ι' w' hE hs' he => ?_⟩⟩
    · have key : (ks j = .heap ∨ ∃ p m, ks j = .ldh p m) → Hs (min j (min n ios.length)) = Hs j := by
        intro h2
        by_cases h1 : n ≤ j
        · rw [hconst h1 h2]; congr 1; omega
        · congr 1; omega
      unfold HAlike
      cases hk : ks j with
      | heap => exact key (.inl hk)
      | ldh p m => simp only; rw [key (.inr ⟨p, m, hk⟩)]
      | _ => trivial
    · by_cases hheap : ks j = .heap
      · rw [hheap] at hs' he
        simp only [Kd.h] at hs' he
        by_cases h1 : j < n
        · -- a gentle one
          have hv : min j (min n ios.length) = j := by omega
          rw [hv] at he
          obtain ⟨g1, g2, g3, g4, g5⟩ := gentle_step (n := min n ios.length) hg hs hd (v := j) (v' := j + 1) (by omega) (by omega) (by omega) (hf j (by omega) hn) hs' he hE rfl
          refine ⟨_, _, .early rfl g1 g2 ?_ ?_, fun i => upto_mono g3 _, ?_, g3, fun b L hb => ?_⟩
          · intro k hk hnl b hb1 hb2
            have hkj : k ≠ j := fun e => hnl (.inr e)
            have hlen1 := (hg k (min n ios.length) (by omega) (Nat.le_refl _)).1
            cases hq : (if b < (Hs (j + 1)).length then ι' b else ι b) with
            | none => rfl
            | some L =>
              rcases g5 b L hq with h2 | ⟨h2, h3, _⟩
              · rw [hf k hk (fun h => hnl (.inl h)) b hb1 hb2] at h2; simp at h2
              · exfalso
                rcases Nat.lt_or_gt_of_ne hkj with h4 | h4
                · have := (hg (k + 1) j (by omega) (by omega)).1; omega
                · have := (hg (j + 1) k (by omega) (by omega)).1; omega
          · intro k hk1 hk2
            rcases hk1 with hk1 | rfl
            · exact hlow k hk1 hk2
            · omega
          · have : min (j + 1) (min n ios.length) = j + 1 := by omega
            rw [this, g4]; exact Sub.refl _
          · rw [hv]
            rcases g5 b L hb with h2 | ⟨h2, _, h3⟩
            · exact .inl h2
            · exact .inr ⟨h2, h3⟩
        · -- the first from n on
          have hι : upto ι (Hs (min n ios.length)).length = ι := upto_all hd
          have hv : min j (min n ios.length) = min n ios.length := by omega
          rw [hv, hι] at he
          have hsub : Sub ι ι' := fun b L hb => by rw [he.old b (hd b L hb)]; exact hb
          have hall : upto ι' ((Hs (j + 1)).length) = ι' := upto_all fun b L hb => (hs'.dom b L hb).1
          refine ⟨ι', _, .later j (by omega) hj hheap (.inr rfl) rfl ?_ ?_ hs', fun i => ?_, ?_, hsub, fun b L hb => ?_⟩
          · intro k hk1 hk2
            by_cases hkj : k = j
            · exact .inr hkj
            · exact .inl (hp k (S.preds_heap (by omega) (by omega) hj hk2 (.inl hheap)))
          · rintro k hk1 hk2 (hk3 | hk3)
            · have := hlow k hk3 hk2; omega
            · omega
          · show Sub _ (upto ι' (Hs (j + 1)).length)
            rw [hall]; exact upto_le.trans hsub
          · show Sub _ (upto ι' (Hs (j + 1)).length)
            rw [hall]; exact Sub.refl _
          · rw [hv]
            by_cases hb2 : b < (Hs (min n ios.length)).length
            · rw [he.old b hb2] at hb; exact .inl hb
            · exact .inr ⟨by omega, hb⟩
      · have hh : (ks j).h (Hs (j + 1)) (Hs (min j (min n ios.length))) = Hs (min j (min n ios.length)) := by
          cases hq : ks j <;> first | rfl | exact absurd hq hheap
        rw [hh] at hs' he
        obtain ⟨g1, g2, g3, g4, g5⟩ := gentle_step (n := min n ios.length) hg hs hd (v := min j (min n ios.length)) (v' := min j (min n ios.length)) (by omega) (by omega) (by omega) (fun b h1 h2 => by omega) hs' he hE rfl
        refine ⟨_, _, .early rfl g1 g2 ?_ ?_, fun i => upto_mono g3 _, ?_, g3, fun b L hb => ?_⟩
        · intro k hk hnl b hb1 hb2
          cases hq : (if b < (Hs (min j (min n ios.length))).length then ι' b else ι b) with
          | none => rfl
          | some L =>
            rcases g5 b L hq with h2 | ⟨h2, h3, _⟩
            · rw [hf k hk (fun h => hnl (.inl h)) b hb1 hb2] at h2; simp at h2
            · omega
        · intro k hk1 hk2
          rcases hk1 with hk1 | rfl
          · exact hlow k hk1 hk2
          · exact absurd hk2 hheap
        · refine Sub.trans ?_ (upto_sub ((hg (min j (min n ios.length)) (min (j + 1) (min n ios.length)) (by omega) (by omega)).1))
          rw [g4]; exact Sub.refl _
        · rcases g5 b L hb with h2 | ⟨h2, h3, _⟩
          · exact .inl h2
          · omega
  | later i0 h1 h2 h3 h4 hK hdone htodo hsim =>
    subst hK
    have hι : upto ι (Hs (i0 + 1)).length = ι := upto_all fun b L hb => (hsim.dom b L hb).1
    have hge : ks j = .heap → i0 + 1 ≤ j := fun hk => by
      rcases Nat.lt_or_ge j (i0 + 1) with h | h
      · exact absurd (hdone j h hk) hn
      · exact h
    have hconst : i0 + 1 ≤ j → (ks j = .heap ∨ ∃ p m, ks j = .ldh p m) → Hs j = Hs (i0 + 1) := fun h5 h6 =>
      S.heap_const h5 (by omega) fun i h7 h8 hk => htodo i h7 hk (hp i (S.preds_heap h8 (by omega) hj hk h6))
    refine ⟨i0 + 1, ⟨by rw [hι]; exact hsim, fun i _ => Nat.le_refl _, .inr ⟨i0, rfl, h4, h3⟩, ?_, fun E ι' w' hE hs' he => ?_⟩⟩
    · unfold HAlike
      cases hk : ks j with
      | heap => simp only; rw [hconst (hge hk) (.inl hk)]
      | ldh p m =>
        simp only
        rcases Nat.lt_or_ge j (i0 + 1) with h | h
        · have hlt : j < i0 := by
            rcases Nat.lt_or_ge j i0 with h | h'
            · exact h
            · have : j = i0 := by omega
              subst this; rw [hk] at h3; simp at h3
          rcases S.preds_ldh hlt h1 h2 hk h3 with h5 | h5
          · exact absurd (hl i0 h2 h4 j h5) hn
          · exact S.late_rd h (by omega) hk h5
        · rw [hconst h (.inr ⟨p, m, hk⟩)]
      | _ => trivial
    · rw [hι] at he
      have hsub : Sub ι ι' := fun b L hb => by rw [he.old b (hsim.dom b L hb).1]; exact hb
      have hback : ∀ b L, ι' b = some L → ι b = some L ∨ ((Hs (i0 + 1)).length ≤ b ∧ ι' b = some L) := fun b L hb => by
        by_cases hb2 : b < (Hs (i0 + 1)).length
        · rw [he.old b hb2] at hb; exact .inl hb
        · exact .inr ⟨by omega, hb⟩
      by_cases hheap : ks j = .heap
      · have hjm := hge hheap
        rw [hheap] at hs' he
        simp only [Kd.h] at hs' he
        have hall : upto ι' ((Hs (j + 1)).length) = ι' := upto_all fun b L hb => (hs'.dom b L hb).1
        refine ⟨ι', _, .later j (by omega) hj hheap (.inr rfl) rfl ?_ ?_ hs', fun i => ?_, ?_, hsub, hback⟩
        · intro k hk1 hk2
          by_cases hkj : k = j
          · exact .inr hkj
          · exact .inl (hp k (S.preds_heap (by omega) (by omega) hj hk2 (.inl hheap)))
        · rintro k hk1 hk2 (hk3 | hk3)
          · exact htodo k (by omega) hk2 hk3
          · omega
        · show Sub _ (upto ι' (Hs (j + 1)).length)
          rw [hall]; exact upto_le.trans hsub
        · show Sub _ (upto ι' (Hs (j + 1)).length)
          rw [hall]; exact Sub.refl _
      · have hh : (ks j).h (Hs (j + 1)) (Hs (i0 + 1)) = Hs (i0 + 1) := by
          cases hq : ks j <;> first | rfl | exact absurd hq hheap
        rw [hh] at hs' he
        have hall : upto ι' ((Hs (i0 + 1)).length) = ι' := upto_all fun b L hb => (hs'.dom b L hb).1
        refine ⟨ι', _, .later i0 h1 h2 h3 (.inl h4) rfl (fun k hk1 hk2 => .inl (hdone k hk1 hk2)) ?_ hs', fun i => ?_, ?_, hsub, hback⟩
        · rintro k hk1 hk2 (hk3 | rfl)
          · exact htodo k hk1 hk2 hk3
          · exact hheap hk2
        · show Sub _ (upto ι' (Hs (i0 + 1)).length)
          rw [hall]; exact upto_le.trans hsub
        · show Sub _ (upto ι' (Hs (i0 + 1)).length)
          rw [hall]; exact Sub.refl _

end
end Go.Proofs.Ytpnbojehfngigaa.IM

/- The ideal machine: the frame while a region's operations come in a drawn order. -/
namespace Go.Proofs.Ytpnbojehfngigaa.IM
open Go
set_option linter.unusedVariables false
set_option linter.unusedSimpArgs false

/-- What an operation reads of the temporaries, alone. -/
def cutEnv (env : Env) : List Nat → Env
  | [] => []
  | d :: ds => match lk env d with
    | some x => (d, x) :: cutEnv env ds
    | none => cutEnv env ds

theorem cutEnv_lk (env : Env) : ∀ (ds : List Nat) (d : Nat), lk (cutEnv env ds) d = if d ∈ ds then lk env d else none
  | [], d => rfl
  | e :: ds, d => by
    simp only [cutEnv]
    cases h : lk env e with
    | none =>
      simp only
      rw [cutEnv_lk env ds d]
      by_cases hd : d = e
      · subst hd; simp [h]
      · simp [hd]
    | some x =>
      simp only [lk]
      by_cases hd : e = d
      · subst hd; simp [h]
      · rw [if_neg hd, cutEnv_lk env ds d]
        have : d ≠ e := fun h => hd h.symm
        simp [this]

/-- The kept values that an operation reads, alone. -/
def cutVs (vs : List (Option Value)) (io : IOp) : List (Option Value) :=
  (List.range vs.length).map fun k => if io.args.any (fun | .v k' _ => k' == k | _ => false) then (vs[k]?).join else none

theorem cutVs_get {vs : List (Option Value)} {io : IOp} {k : Nat} {x : Value} (h : (cutVs vs io)[k]? = some (some x)) : vs[k]? = some (some x) ∧ ∃ d, IOpd.v k d ∈ io.args := by
  unfold cutVs at h
  rw [List.getElem?_map] at h
  by_cases hk : k < vs.length
  · rw [List.getElem?_range hk] at h
    simp only [Option.map_some, Option.some.injEq] at h
    split at h
    · rename_i ha
      rw [List.any_eq_true] at ha
      obtain ⟨a, h1, h2⟩ := ha
      have : vs[k]? = some (vs[k]) := List.getElem?_eq_getElem hk
      rw [this] at h ⊢
      simp only [Option.join_some] at h
      refine ⟨by rw [h], ?_⟩
      cases a with
      | v k' d => simp only [beq_iff_eq] at h2; subst h2; exact ⟨d, h1⟩
      | _ => simp at h2
    · simp at h
  · rw [List.getElem?_eq_none (by simpa using hk)] at h
    simp at h

theorem cutVs_same {vs : List (Option Value)} {io : IOp} {k d : Nat} (h : IOpd.v k d ∈ io.args) : (cutVs vs io)[k]? = vs[k]? := by
  unfold cutVs
  rw [List.getElem?_map]
  by_cases hk : k < vs.length
  · rw [List.getElem?_range hk]
    have ha : io.args.any (fun | .v k' _ => k' == k | _ => false) = true := List.any_eq_true.2 ⟨_, h, by simp⟩
    simp only [Option.map_some, ha, if_true]
    rw [List.getElem?_eq_getElem hk]; rfl
  · rw [List.getElem?_eq_none (by simpa using hk), List.getElem?_eq_none (by simpa using hk)]; rfl

theorem cut_ev {env : Env} {vs : List (Option Value)} {io : IOp} : ∀ a ∈ io.args, ev (cutEnv env (rdTmps io)) (cutVs vs io) a = ev env vs a := by
  intro a ha
  cases a with
  | l d =>
    simp only [ev]
    rw [cutEnv_lk, if_pos (rdTmps_arg ha (.inl rfl))]
  | v k d =>
    simp only [ev]
    rw [cutEnv_lk, if_pos (rdTmps_arg ha (.inr (.inl ⟨k, rfl⟩))), cutVs_same ha]
  | b t d => rfl
  | c x => rfl

theorem cut_want {env : Env} {io : IOp} : want (cutEnv env (rdTmps io)) io.guard = want env io.guard := by
  cases hg : io.guard with
  | none => rfl
  | some g =>
    obtain ⟨d, b⟩ := g
    simp only [want]
    have : d ∈ rdTmps io := by unfold rdTmps; rw [hg]; simp
    rw [cutEnv_lk, if_pos this]

/-- The box that a step reads or writes, alone. -/
def cutBx (bx : List (List Value)) (k : Kd) : List (List Value) :=
  (List.range bx.length).map fun u => match k with
    | .rd t => if u = t then bx.getD u [] else []
    | .wr t _ => if u = t then bx.getD u [] else []
    | _ => []

theorem cutBx_len (bx : List (List Value)) (k : Kd) : (cutBx bx k).length = bx.length := by simp [cutBx]

theorem cutBx_get {bx : List (List Value)} {k : Kd} {u : Nat} {cs : List Value} (h : (cutBx bx k)[u]? = some cs) (hne : cs ≠ []) : bx[u]? = some cs ∧ (k = .rd u ∨ ∃ c, k = .wr u c) := by
  unfold cutBx at h
  rw [List.getElem?_map] at h
  by_cases hk : u < bx.length
  · rw [List.getElem?_range hk] at h
    simp only [Option.map_some, Option.some.injEq] at h
    have hg : bx.getD u [] = bx[u] := by simp [List.getD_eq_getElem?_getD, hk]
    split at h
    · rename_i t
      split at h
      · rename_i he; subst he
        rw [hg] at h
        exact ⟨by rw [← h]; exact List.getElem?_eq_getElem hk, .inl rfl⟩
      · exact absurd h.symm hne
    · rename_i t c
      split at h
      · rename_i he; subst he
        rw [hg] at h
        exact ⟨by rw [← h]; exact List.getElem?_eq_getElem hk, .inr ⟨c, rfl⟩⟩
      · exact absurd h.symm hne
    · exact absurd h.symm hne
  · rw [List.getElem?_eq_none (by simpa using hk)] at h
    simp at h

theorem cutBx_same {bx : List (List Value)} {k : Kd} {t : Nat} (h : k = .rd t ∨ ∃ c, k = .wr t c) : (cutBx bx k)[t]? = bx[t]? := by
  unfold cutBx
  rw [List.getElem?_map]
  by_cases hk : t < bx.length
  · rw [List.getElem?_range hk, List.getElem?_eq_getElem hk]
    rcases h with rfl | ⟨c, rfl⟩ <;> simp [List.getD_eq_getElem?_getD, hk]
  · rw [List.getElem?_eq_none (by simpa using hk), List.getElem?_eq_none (by simpa using hk)]; rfl

end Go.Proofs.Ytpnbojehfngigaa.IM

/- The ideal machine: what holds at a listing, and the frame of an operation that comes next. -/
namespace Go.Proofs.Ytpnbojehfngigaa.IM
open Go
set_option linter.unusedVariables false
set_option linter.unusedSimpArgs false

def Cut (ks : Nat → Kd) (N : Nat) (l : Nat → Prop) (t j : Nat) : Prop := j ≤ N ∧ (∀ i, i < j → BoxW ks i t → l i) ∧ ∀ i, j ≤ i → i < N → BoxW ks i t → ¬ l i

/-- A temporary's value: a box's place lies in the row that the box's temporary tells, and the box will not be made anew. -/
def VR (C : Cfg) (ks : Nat → Kd) (N : Nat) (l : Nat → Prop) (a : Act) (κ : Inj) : EV → Value → Prop
  | .adr t o, y => (∃ d r, C.B[t]? = some d ∧ a.tmps[d]? = some (.pointer (some ⟨r, 0, none⟩)) ∧ y = .pointer (some ⟨r, o, none⟩)) ∧ ∀ k cs, k < N → ks k = .mk t cs → l k
  | .non, _ => True
  | x, y => VRel κ x y

structure Inv (P : Program) (C : Cfg) (vs : List (Option Value)) (n : Nat) (ios : List IOp) (Es : Nat → Env) (Bs : Nat → List (List Value)) (Hs : Nat → Heap) (ks : Nat → Kd) (W0 : World) (l : Nat → Prop) (a : Act) (w : World) (ι : Inj) (K : Nat → Nat) : Prop where
  defers : a.defers = []
  size : a.tmps.size = C.nt
  heap : HInv n ios.length Hs ks l w ι K
  ws : W0.heap.size ≤ w.heap.size
  tmps : ∀ i io d, l i → ios[i]? = some io → io.dst = some d → ∀ x, lk (Es (i + 1)) d = some x → ∃ y, a.tmps[d]? = some y ∧ VR C ks ios.length l a (upto ι (K (i + 1))) x y
  vars : ∀ (k d : Nat) (x : Value), C.K[k]? = some d → vs[k]? = some (some x) → (∀ i io, l i → ios[i]? = some io → io.dst ≠ some d) → ∃ y, a.tmps[d]? = some y ∧ V1Rel (upto ι (K 0)) x y
  nb : (Bs 0).length = C.B.length
  box : ∀ t d j cs, Cut ks ios.length l t j → C.B[t]? = some d → (Bs j)[t]? = some cs → cs ≠ [] →
    ∃ r Cs e, a.tmps[d]? = some (.pointer (some ⟨r, 0, none⟩)) ∧ w.heap[r]? = some (.cells Cs e (0, 0)) ∧ LRel (CRel (upto ι (K j))) cs Cs.toList ∧ (∀ b L, ι b = some L → L.r ≠ r) ∧ W0.heap.size ≤ r
  apart : ∀ t t' d d' j j' cs cs' r, Cut ks ios.length l t j → Cut ks ios.length l t' j' → C.B[t]? = some d → C.B[t']? = some d' → (Bs j)[t]? = some cs → (Bs j')[t']? = some cs' → cs ≠ [] → cs' ≠ [] →
    a.tmps[d]? = some (.pointer (some ⟨r, 0, none⟩)) → a.tmps[d']? = some (.pointer (some ⟨r, 0, none⟩)) → t = t'

/-- The rows that the next operation may touch of the frame's own. -/
def rowsOf (C : Cfg) (bx : List (List Value)) (k : Kd) (a : Act) : Nat → Prop := fun r => ∃ t d, (k = .rd t ∨ ∃ c, k = .wr t c) ∧ C.B[t]? = some d ∧ a.tmps[d]? = some (.pointer (some ⟨r, 0, none⟩)) ∧ ∃ cs, bx[t]? = some cs ∧ cs ≠ []

section
variable {P : Program} {C : Cfg} {vs : List (Option Value)} {n : Nat} {late : List Nat} {ops : List Oper} {ios : List IOp} {Es : Nat → Env} {Bs : Nat → List (List Value)} {Hs : Nat → Heap} {ks : Nat → Kd} {xs : Nat → Option EV}
  {l : Nat → Prop} {w W0 : World} {ι : Inj} {K : Nat → Nat} {a : Act}

theorem Steps.touch_cut (S : Steps P C vs n late ops ios Es Bs Hs ks xs) {j t : Nat} (hj : j < ios.length) (hn : ¬ l j) (hp : ∀ i, preds (ancs ops) j i = true → l i) (hl : ∀ k, k < ios.length → l k → ∀ i, preds (ancs ops) k i = true → l i)
    (ht : Touches ks j t) : Cut ks ios.length l t j := by
  refine ⟨by omega, fun i hi hw => hp i (S.preds_box hi hj (.inr hw) ht (.inl hw)), fun i hi hiN hw hli => ?_⟩
  rcases Nat.lt_or_ge j i with h | h
  · exact hn (hl i hiN hli j (S.preds_box h hiN ht (.inr hw) (.inr hw)))
  · have : i = j := by omega
    subst this; exact hn hli

theorem Inv.rr (S : Steps P C vs n late ops ios Es Bs Hs ks xs) (I : Inv P C vs n ios Es Bs Hs ks W0 l a w ι K) {j v : Nat} {io : IOp} (hio : ios[j]? = some io) (hn : ¬ l j)
    (hp : ∀ i, preds (ancs ops) j i = true → l i) (hl : ∀ k, k < ios.length → l k → ∀ i, preds (ancs ops) k i = true → l i) (V : View n ios.length Hs ks l w ι K j v)
    (hB : ∀ d ∈ C.B, d < C.nt) (hlt : ∀ d ∈ rdTmps io, ∀ x, lk (Es j) d = some x → d < C.nt) :
    RR P C (rowsOf C (Bs j) (ks j) a) (upto ι (Hs v).length) (Hs v) w (upto ι (Hs v).length) (cutVs vs io) (cutEnv (Es j) (rdTmps io)) (cutBx (Bs j) (ks j)) (Hs v) a w := by
  have hj : j < ios.length := (List.getElem?_eq_some_iff.1 hio).1
  have hsub : ∀ i, i ≤ j → Sub (upto ι (K i)) (upto ι (Hs v).length) := fun i hi => upto_sub (V.le i hi)
  have EA := S.envAt (Nat.le_of_lt hj)
  refine ⟨I.defers, I.size, V.sim, Ext.refl _ _ _ _ _ V.sim, fun d x hx => ?_, fun k d x hk hx hnone => ?_, by rw [cutBx_len, S.bx_len (Nat.le_of_lt hj)]; exact I.nb, fun t d cs hd hc hne => ?_, fun t t' d d' cs cs' r h1 h2 h3 h4 h5 h6 _ _ => ?_⟩
  · rw [cutEnv_lk] at hx
    split at hx
    case isFalse => simp at hx
    rename_i hmem
    obtain ⟨i, y, hi, hy, hdy⟩ := (EA.dom d).2 ⟨x, hx⟩
    have hli := hp i (S.preds_dep hi hy hio (.inl ⟨hdy, hmem⟩))
    rcases S.keep_val hy hdy (by omega) (Nat.le_of_lt hj) hx with h1 | rfl
    · obtain ⟨z, h2, h3⟩ := I.tmps i y d hli hy hdy x h1
      refine ⟨z, h2, ?_⟩
      cases x with
      | adr t o =>
        obtain ⟨⟨d', r, g1, g2, g3⟩, _⟩ := h3
        intro cs _ _
        exact ⟨d', r, g1, g2, g3⟩
      | non => trivial
      | val u => exact VRel.mono (hsub (i + 1) (by omega)) h3
      | tup u => exact VRel.mono (hsub (i + 1) (by omega)) h3
    · have hd := hlt d hmem _ hx
      rw [← I.size] at hd
      exact ⟨_, Array.getElem?_eq_getElem hd, trivial⟩
  · obtain ⟨hx, d', hm⟩ := cutVs_get hx
    have hdd : d' = d := by
      have := ((S.ok io (List.mem_of_getElem? hio)).args _ hm).2
      rw [hk] at this; simpa using this.symm
    subst hdd
    have hmem : d' ∈ rdTmps io := rdTmps_arg hm (.inr (.inl ⟨k, rfl⟩))
    rw [cutEnv_lk, if_pos hmem] at hnone
    obtain ⟨y, h1, h2⟩ := I.vars k d' x hk hx fun i y hli hy hdy => by
      rcases Nat.lt_trichotomy i j with h | h | h
      · obtain ⟨z, hz⟩ := (EA.dom d').1 ⟨i, y, h, hy, hdy⟩
        rw [hnone] at hz; simp at hz
      · subst h; exact hn hli
      · exact hn (hl i (List.getElem?_eq_some_iff.1 hy).1 hli j (S.preds_dep h hio hy (.inr ⟨hdy, hmem⟩)))
    exact ⟨y, h1, h2.mono (hsub 0 (by omega))⟩
  · obtain ⟨h1, h2⟩ := cutBx_get hc hne
    have ht : Touches ks j t := by
      rcases h2 with h2 | ⟨c, h2⟩
      · exact .inl h2
      · exact .inr ⟨c, .inl h2⟩
    obtain ⟨r, Cs, e, g1, g2, g3, g4, g5⟩ := I.box t d j cs (S.touch_cut hj hn hp hl ht) hd h1 hne
    exact ⟨r, Cs, e, g1, g2, g3.mono fun _ _ h => h.mono (hsub j (Nat.le_refl _)), fun b L hb => g4 b L (upto_some.1 hb).2, .inr ⟨t, d, h2, hd, g1, cs, h1, hne⟩⟩
  · obtain ⟨_, g1⟩ := cutBx_get h3 h5
    obtain ⟨_, g2⟩ := cutBx_get h4 h6
    rcases g1 with g1 | ⟨c, g1⟩ <;> rcases g2 with g2 | ⟨c', g2⟩ <;> rw [g1] at g2 <;> simp at g2
    · exact g2
    · exact g2.1

end
end Go.Proofs.Ytpnbojehfngigaa.IM

/- The ideal machine: what holds behind an operation that came in a drawn order. -/
namespace Go.Proofs.Ytpnbojehfngigaa.IM
open Go
set_option linter.unusedVariables false
set_option linter.unusedSimpArgs false

section
variable {P : Program} {C : Cfg} {vs : List (Option Value)} {n : Nat} {late : List Nat} {ops : List Oper} {ios : List IOp} {Es : Nat → Env} {Bs : Nat → List (List Value)} {Hs : Nat → Heap} {ks : Nat → Kd} {xs : Nat → Option EV}
  {l : Nat → Prop} {w W0 : World} {ι : Inj} {K : Nat → Nat} {a : Act}

theorem HInv.mono (S : Steps P C vs n late ops ios Es Bs Hs ks xs) (h : HInv n ios.length Hs ks l w ι K) {i j : Nat} (hij : i ≤ j) : K i ≤ K j := by
  cases h with
  | early hK =>
    subst hK
    exact (S.gent (by omega) (by omega) (by omega)).1
  | later i0 _ _ _ _ hK => subst hK; exact Nat.le_refl _

theorem HInv.dom (h : HInv n ios.length Hs ks l w ι K) {b : Nat} {L : Loc} (hb : ι b = some L) : L.r < w.heap.size := by
  cases h with
  | early hK hs hd => exact ((hs _ (Nat.le_refl _)).dom b L (upto_some.2 ⟨hd b L hb, hb⟩)).2
  | later i0 _ _ _ _ hK _ _ hs => exact (hs.dom b L hb).2

theorem put_other {a : Act} {dst : Option Nat} {y : Value} {d : Nat} (h : dst ≠ some d) : (a.put dst y).tmps[d]? = a.tmps[d]? := by
  cases dst with
  | none => rfl
  | some e =>
    simp only [Act.put]
    exact Array.getElem?_setIfInBounds_ne (by rintro rfl; exact h rfl)

/-- Who writes a box's temporary makes the box. -/
theorem Steps.make_kd (S : Steps P C vs n late ops ios Es Bs Hs ks xs) (hC : COk C) {j t d : Nat} {io : IOp} (hio : ios[j]? = some io) (hd : io.dst = some d) (ht : C.B[t]? = some d) : ∃ cs, ks j = .mk t cs := by
  have hok := S.ok io (List.mem_of_getElem? hio)
  have hmem : d ∈ C.B := List.mem_of_getElem? ht
  have hg := hok.bad d hd hmem
  have hnd := (List.nodup_append.1 hC.nd).2.1
  have hsays := S.says j io hio
  cases hmk : makesBox io.k with
  | none =>
    exfalso
    by_cases hb : io.k = .bad
    · have hst := S.T.step j io hio
      generalize Es (j + 1) = e1, Bs (j + 1) = b1, Hs (j + 1) = h1 at hst
      cases hst with
      | skip hw => rw [hg] at hw; simp [want] at hw
      | exec _ _ _ hx => rw [hb] at hx; simp [iexec] at hx
      | call _ _ _ hk _ => rw [hb] at hk; simp at hk
      | callv _ _ _ hk _ => rw [hb] at hk; simp at hk
    · exact hok.other d hd hmk hb hmem
  | some u =>
    obtain ⟨d', h1, h2⟩ := hok.make u hmk
    rw [hd] at h1; simp only [Option.some.injEq] at h1; subst h1
    have hut : u = t := by
      obtain ⟨g1, g2⟩ := List.getElem?_eq_some_iff.1 h2
      obtain ⟨g3, g4⟩ := List.getElem?_eq_some_iff.1 ht
      exact (List.getElem_inj hnd).1 (g2.trans g4.symm)
    subst hut
    cases hk : ks j with
    | mk u' cs =>
      rw [hk] at hsays
      have := hsays.1
      rw [hmk] at this; simp only [Option.some.injEq] at this; subst this
      exact ⟨cs, rfl⟩
    | pure =>
      rw [hk] at hsays
      rcases hsays with h | h
      · rw [hmk] at h; simp at h
      · rw [hg] at h; simp [want] at h
    | rd u' =>
      rw [hk] at hsays
      rcases hsays.1 with h | h <;> cases hq : io.k <;> rw [hq] at h hmk <;> simp [isFa, isLd, makesBox] at h hmk
    | wr u' cs =>
      rw [hk] at hsays
      obtain ⟨m, h⟩ := hsays.1
      rw [h] at hmk; simp [makesBox] at hmk
    | ldh p m =>
      rw [hk] at hsays
      obtain ⟨⟨g, h⟩, _⟩ := hsays
      rw [h] at hmk; simp [makesBox] at hmk
    | heap =>
      rw [hk] at hsays
      have h := hsays.1
      cases hq : io.k <;> rw [hq] at h hmk <;> simp [memClass, makesBox] at h hmk

end
end Go.Proofs.Ytpnbojehfngigaa.IM

/- The ideal machine: the invariant behind an operation that came in a drawn order. -/
namespace Go.Proofs.Ytpnbojehfngigaa.IM
open Go
set_option linter.unusedVariables false
set_option linter.unusedSimpArgs false

section
variable {P : Program} {C : Cfg} {vs : List (Option Value)} {n : Nat} {late : List Nat} {ops : List Oper} {ios : List IOp} {Es : Nat → Env} {Bs : Nat → List (List Value)} {Hs : Nat → Heap} {ks : Nat → Kd} {xs : Nat → Option EV}
  {l : Nat → Prop} {w W0 : World} {ι : Inj} {K : Nat → Nat} {a : Act}

theorem VR.mono {N : Nat} {l l' : Nat → Prop} {a a' : Act} {κ κ' : Inj} (hs : Sub κ κ') (hl : ∀ i, l i → l' i) (ha : ∀ t d, C.B[t]? = some d → (∀ k cs, k < N → ks k = .mk t cs → l k) → a'.tmps[d]? = a.tmps[d]?) {x : EV} {y : Value}
    (h : VR C ks N l a κ x y) : VR C ks N l' a' κ' x y := by
  cases x with
  | adr t o =>
    obtain ⟨⟨d, r, h1, h2, h3⟩, h4⟩ := h
    exact ⟨⟨d, r, h1, by rw [ha t d h1 h4]; exact h2, h3⟩, fun k cs hk hm => hl k (h4 k cs hk hm)⟩
  | non => trivial
  | val v => exact VRel.mono hs h
  | tup v => exact VRel.mono hs h

theorem Inv.next_vars (S : Steps P C vs n late ops ios Es Bs Hs ks xs) (I : Inv P C vs n ios Es Bs Hs ks W0 l a w ι K) {j : Nat} {io : IOp} (hio : ios[j]? = some io) {a' : Act} {y : Value} (ha : a' = a.put io.dst y)
    {ι2 : Inj} {K2 : Nat → Nat} (hs : ∀ i, Sub (upto ι (K i)) (upto ι2 (K2 i))) (k d : Nat) (x : Value) (hk : C.K[k]? = some d) (hx : vs[k]? = some (some x)) (hw : ∀ i io, (l i ∨ i = j) → ios[i]? = some io → io.dst ≠ some d) :
    ∃ y, a'.tmps[d]? = some y ∧ V1Rel (upto ι2 (K2 0)) x y := by
  obtain ⟨z, h1, h2⟩ := I.vars k d x hk hx fun i io' hi hio' => hw i io' (.inl hi) hio'
  refine ⟨z, ?_, h2.mono (hs 0)⟩
  rw [ha, put_other (hw j io (.inr rfl) hio)]; exact h1

theorem Inv.next_old (S : Steps P C vs n late ops ios Es Bs Hs ks xs) (hC : COk C) (I : Inv P C vs n ios Es Bs Hs ks W0 l a w ι K) {j : Nat} {io : IOp} (hio : ios[j]? = some io) (hn : ¬ l j) {a' : Act} {y : Value} (ha : a' = a.put io.dst y)
    {ι2 : Inj} {K2 : Nat → Nat} (hs : ∀ i, Sub (upto ι (K i)) (upto ι2 (K2 i))) (i d : Nat) (io' : IOp) (hi : l i) (hio' : ios[i]? = some io') (hd : io'.dst = some d) (x : EV) (hx : lk (Es (i + 1)) d = some x) :
    ∃ y, a'.tmps[d]? = some y ∧ VR C ks ios.length (fun i => l i ∨ i = j) a' (upto ι2 (K2 (i + 1))) x y := by
  obtain ⟨z, h1, h2⟩ := I.tmps i io' d hi hio' hd x hx
  have hne : io.dst ≠ some d := fun e => by
    have := dst_inj S.ord.nd hio hio' e hd
    subst this; exact hn hi
  refine ⟨z, by rw [ha, put_other hne]; exact h1, h2.mono (hs (i + 1)) (fun _ h => .inl h) fun t d' ht hm => ?_⟩
  rw [ha]
  refine put_other fun e => ?_
  obtain ⟨cs, hk⟩ := S.make_kd hC hio e ht
  exact hn (hm j cs (List.getElem?_eq_some_iff.1 hio).1 hk)

theorem Inv.next_new (S : Steps P C vs n late ops ios Es Bs Hs ks xs) (hC : COk C) (I : Inv P C vs n ios Es Bs Hs ks W0 l a w ι K) {j v : Nat} {io : IOp} (hio : ios[j]? = some io) (hp : ∀ i, preds (ancs ops) j i = true → l i)
    {a' : Act} {w' : World} {ι' ι2 : Inj} {K2 : Nat → Nat} {E : Nat → Prop} {κ : Inj} {H1 H2 : Heap}
    (R : RR P C E κ H1 w ι' (cutVs vs io) (bind1 ((ks j).env (cutEnv (Es j) (rdTmps io))) io.dst (xs j)) ((ks j).bx (cutBx (Bs j) (ks j))) H2 a' w')
    (hs : Sub ι' (upto ι2 (K2 (j + 1)))) (d : Nat) (hd : io.dst = some d) (x : EV) (hx : lk (Es (j + 1)) d = some x) :
    ∃ y, a'.tmps[d]? = some y ∧ VR C ks ios.length (fun i => l i ∨ i = j) a' (upto ι2 (K2 (j + 1))) x y := by
  have hj : j < ios.length := (List.getElem?_eq_some_iff.1 hio).1
  have hxs : x = (xs j).getD (.tup []) := by
    rw [S.env j io hio, bind1_lk, if_pos hd] at hx; simpa using hx.symm
  obtain ⟨y, h1, h2⟩ := R.envr d x (by rw [bind1_lk, if_pos hd, hxs])
  refine ⟨y, h1, ?_⟩
  cases x with
  | val u => exact VRel.mono hs h2
  | tup u => exact VRel.mono hs h2
  | non => trivial
  | adr t o =>
    obtain ⟨e1, x0, he, _, hadr, _⟩ := step_env (S.T.step j io hio)
    have hx0 : x0 = some (.adr t o) := by
      rw [he, bind1_lk, if_pos hd] at hx
      cases x0 with
      | none => simp at hx
      | some z => simpa using hx
    have uniq : ∀ k cs, k < ios.length → ks k = .mk t cs → ∃ iok d', ios[k]? = some iok ∧ iok.dst = some d' ∧ C.B[t]? = some d' := by
      intro k cs hk hm
      obtain ⟨iok, hiok⟩ := S.io hk
      have := S.says k iok hiok
      rw [hm] at this
      obtain ⟨d', g1, g2⟩ := (S.ok iok (List.mem_of_getElem? hiok)).make t this.1
      exact ⟨iok, d', hiok, g1, g2⟩
    rcases hadr t o hx0 with hm | ⟨off, b, o', hwant, hk, hargs, hev⟩
    · obtain ⟨d', g1, g2⟩ := (S.ok io (List.mem_of_getElem? hio)).make t hm
      rw [hd] at g1; simp only [Option.some.injEq] at g1; subst g1
      obtain ⟨cs, hkd⟩ := S.make_kd hC hio hd g2
      have hsays := S.says j io hio
      rw [hkd] at hsays
      have hne : cs ≠ [] := by
        have hbig := (S.ok io (List.mem_of_getElem? hio)).big
        rcases hsays.2 with h | ⟨m, h, hl⟩
        · exact hbig.1 _ _ h
        · have := hbig.2 _ _ h
          rintro rfl; simp at hl; omega
      have hlen : t < (cutBx (Bs j) (ks j)).length := by
        rw [cutBx_len, S.bx_len (Nat.le_of_lt hj), I.nb]; exact (List.getElem?_eq_some_iff.1 g2).1
      obtain ⟨d2, r, q1, q2, q3⟩ := h2 cs (by rw [hkd] at hlen ⊢; simp only [Kd.bx]; exact List.getElem?_set_self hlen) hne
      refine ⟨⟨d2, r, q1, q2, q3⟩, fun k cs' hk hmk => ?_⟩
      obtain ⟨iok, d', e1, e2, e3⟩ := uniq k cs' hk hmk
      rw [g2] at e3; simp only [Option.some.injEq] at e3; subst e3
      exact .inr (dst_inj S.ord.nd e1 hio e2 hd)
    · have hsays := S.says j io hio
      obtain ⟨cs, hkd, hcs, hne⟩ : ∃ cs, ks j = .rd t ∧ (Bs j)[t]? = some cs ∧ cs ≠ [] := by
        cases hq : ks j with
        | rd u =>
          rw [hq] at hsays
          obtain ⟨_, ⟨b', o2, g1, g2⟩, cs, g3, g4⟩ := hsays
          rw [hargs] at g1; simp only [List.cons.injEq, and_true] at g1; subst g1
          rw [hev] at g2; simp only [Option.some.injEq, EV.adr.injEq] at g2
          obtain ⟨rfl, _⟩ := g2
          exact ⟨cs, rfl, g3, g4 (by rw [hk]; rfl)⟩
        | pure =>
          exfalso
          rw [hq] at hsays
          rcases hsays with ⟨_, h⟩ | h
          · exact h b (by rw [hargs]; simp) t o' hev
          · rw [hwant] at h; simp at h
        | wr u c => rw [hq] at hsays; obtain ⟨⟨m, h⟩, _⟩ := hsays; rw [hk] at h; simp at h
        | mk u c => rw [hq] at hsays; have h := hsays.1; rw [hk] at h; simp [makesBox] at h
        | ldh p m => rw [hq] at hsays; obtain ⟨⟨g, h⟩, _⟩ := hsays; rw [hk] at h; simp at h
        | heap => rw [hq] at hsays; have h := hsays.1; rw [hk] at h; simp [memClass] at h
      obtain ⟨d2, r, q1, q2, q3⟩ := h2 cs (by rw [hkd]; simp only [Kd.bx]; rw [cutBx_same (.inl rfl)]; exact hcs) hne
      refine ⟨⟨d2, r, q1, q2, q3⟩, fun k cs' hk' hmk => .inl ?_⟩
      have hbm : b ∈ io.args := by rw [hargs]; simp
      have tmp : ∀ d0, d0 ∈ rdTmps io → lk (Es j) d0 = some (.adr t o') → l k := by
        intro d0 hm0 hl0
        have EA := S.envAt (Nat.le_of_lt hj)
        obtain ⟨i, iy, hi, hy, hdy⟩ := (EA.dom d0).2 ⟨_, hl0⟩
        have hli := hp i (S.preds_dep hi hy hio (.inl ⟨hdy, hm0⟩))
        rcases S.keep_val hy hdy (by omega) (Nat.le_of_lt hj) hl0 with g | g
        · obtain ⟨z, _, g2⟩ := I.tmps i iy d0 hli hy hdy _ g
          exact g2.2 k cs' hk' hmk
        · simp at g
      cases b with
      | l d0 => simp only [ev] at hev; exact tmp d0 (rdTmps_arg hbm (.inl rfl)) hev
      | v k0 d0 =>
        simp only [ev] at hev
        split at hev
        · rename_i z hz
          simp only [Option.some.injEq] at hev; subst hev
          exact tmp d0 (rdTmps_arg hbm (.inr (.inl ⟨k0, rfl⟩))) hz
        · split at hev <;> simp at hev
      | b u d0 =>
        simp only [ev, Option.some.injEq, EV.adr.injEq] at hev
        obtain ⟨rfl, _⟩ := hev
        obtain ⟨iok, d', e1, e2, e3⟩ := uniq k cs' hk' hmk
        have hd0 : C.B[u]? = some d0 := (S.ok io (List.mem_of_getElem? hio)).args _ hbm
        rw [hd0] at e3; simp only [Option.some.injEq] at e3; subst e3
        have hm0 : d0 ∈ rdTmps io := rdTmps_arg hbm (.inr (.inr ⟨u, rfl⟩))
        rcases Nat.lt_trichotomy k j with g | g | g
        · exact hp k (S.preds_dep g e1 hio (.inl ⟨e2, hm0⟩))
        · subst g; rw [hkd] at hmk; simp at hmk
        · exfalso
          have hs1 := S.says k iok e1
          rw [hmk] at hs1
          have := S.ord.make j k io iok u g hio e1 hs1.1
          unfold usesBox at this
          rw [List.any_eq_false] at this
          exact this _ hbm (by simp)
      | c z => simp [ev] at hev

end
end Go.Proofs.Ytpnbojehfngigaa.IM

/- The ideal machine: boxes behind an operation that came in a drawn order. -/
namespace Go.Proofs.Ytpnbojehfngigaa.IM
open Go
set_option linter.unusedVariables false
set_option linter.unusedSimpArgs false

section
variable {P : Program} {C : Cfg} {vs : List (Option Value)} {n : Nat} {late : List Nat} {ops : List Oper} {ios : List IOp} {Es : Nat → Env} {Bs : Nat → List (List Value)} {Hs : Nat → Heap} {ks : Nat → Kd} {xs : Nat → Option EV}
  {l : Nat → Prop} {w W0 : World} {ι : Inj} {K : Nat → Nat} {a : Act}

/-- A row that no block had is no block's. -/
theorem row_out {E : Nat → Prop} {ι' ι2 : Inj} {H H' : Heap} {w' : World} (he : Ext E (upto ι H.length) ι' H H' w w') (hb : ∀ b L, ι2 b = some L → ι b = some L ∨ (H.length ≤ b ∧ ι' b = some L)) {r : Nat} (hr : ∀ b L, ι b = some L → L.r ≠ r) (hw : r < w.heap.size) :
    ∀ b L, ι2 b = some L → L.r ≠ r := by
  intro b L h e
  rcases hb b L h with h1 | ⟨h1, h2⟩
  · exact hr b L h1 e
  · rcases he.new b L h1 h2 with h3 | ⟨b0, L0, _, h4, _, h5⟩
    · omega
    · exact hr b0 L0 (upto_some.1 h4).2 (h5.trans e)

/-- The cut of a box that the operation does not write is the same. -/
theorem cut_same {N t i j : Nat} (hn : ¬ BoxW ks j t) (h : Cut ks N (fun k => l k ∨ k = j) t i) : Cut ks N l t i := by
  refine ⟨h.1, fun k hk hw => ?_, fun k hk hkN hw hlk => h.2.2 k hk hkN hw (.inl hlk)⟩
  rcases h.2.1 k hk hw with h1 | rfl
  · exact h1
  · exact absurd hw hn

/-- A box that the operation does not touch. -/
theorem Inv.next_apart_box (S : Steps P C vs n late ops ios Es Bs Hs ks xs) (hC : COk C) (I : Inv P C vs n ios Es Bs Hs ks W0 l a w ι K) {j v : Nat} {io : IOp} (hio : ios[j]? = some io) (hn : ¬ l j)
    (hp : ∀ i, preds (ancs ops) j i = true → l i) (hl : ∀ k, k < ios.length → l k → ∀ i, preds (ancs ops) k i = true → l i)
    {a' : Act} {y : Value} (ha : a' = a.put io.dst y) {w' : World} {ι' ι2 : Inj} {K2 : Nat → Nat} {H' : Heap}
    (he : Ext (rowsOf C (Bs j) (ks j) a) (upto ι (Hs v).length) ι' (Hs v) H' w w') (hs : ∀ i, Sub (upto ι (K i)) (upto ι2 (K2 i))) (hb : ∀ b L, ι2 b = some L → ι b = some L ∨ ((Hs v).length ≤ b ∧ ι' b = some L))
    (t d i : Nat) (cs : List Value) (hnt : ¬ Touches ks j t) (hcut : Cut ks ios.length (fun k => l k ∨ k = j) t i) (hd : C.B[t]? = some d) (hcs : (Bs i)[t]? = some cs) (hne : cs ≠ []) :
    ∃ r Cs e, a'.tmps[d]? = some (.pointer (some ⟨r, 0, none⟩)) ∧ w'.heap[r]? = some (.cells Cs e (0, 0)) ∧ LRel (CRel (upto ι2 (K2 i))) cs Cs.toList ∧ (∀ b L, ι2 b = some L → L.r ≠ r) ∧ W0.heap.size ≤ r := by
  have hj : j < ios.length := (List.getElem?_eq_some_iff.1 hio).1
  have hcut' := cut_same (fun h => hnt (.inr h)) hcut
  obtain ⟨r, Cs, e, g1, g2, g3, g4, g5⟩ := I.box t d i cs hcut' hd hcs hne
  have hdd : io.dst ≠ some d := fun e => by
    obtain ⟨c, hk⟩ := S.make_kd hC hio e hd
    exact hnt (.inr ⟨c, .inr hk⟩)
  have hr : r < w.heap.size := (Array.getElem?_eq_some_iff.1 g2).1
  refine ⟨r, Cs, e, by rw [ha, put_other hdd]; exact g1, ?_, g3.mono fun _ _ h => h.mono (hs i), row_out he hb g4 hr, g5⟩
  rw [he.keep r hr (fun b L _ hb _ => g4 b L (upto_some.1 hb).2) ?_]
  · exact g2
  · rintro ⟨t', d', hk, hd', hr', cs', h1, h2⟩
    have ht' : Touches ks j t' := by
      rcases hk with h | ⟨c, h⟩
      · exact .inl h
      · exact .inr ⟨c, .inl h⟩
    have := I.apart t t' d d' i j cs cs' r hcut' (S.touch_cut hj hn hp hl ht') hd hd' hcs h1 hne h2 g1 hr'
    subst this; exact hnt ht'

/-- Two cuts of a box: its content is the same. -/
theorem cut_eq (S : Steps P C vs n late ops ios Es Bs Hs ks xs) {t i j : Nat} (hi : Cut ks ios.length l t i) (hj : Cut ks ios.length l t j) : (Bs i)[t]? = (Bs j)[t]? := by
  rcases Nat.le_total i j with h | h
  · exact (S.box_const h hj.1 fun k h1 h2 hw => hi.2.2 k h1 (by have := hj.1; omega) hw (hj.2.1 k h2 hw)).symm
  · exact S.box_const h hi.1 fun k h1 h2 hw => hj.2.2 k h1 (by have := hi.1; omega) hw (hi.2.1 k h2 hw)

/-- The cut of a box that the operation writes lies behind it. -/
theorem new_cut (S : Steps P C vs n late ops ios Es Bs Hs ks xs) {j t i : Nat} (hj : j < ios.length) (hn : ¬ l j) (hp : ∀ i, preds (ancs ops) j i = true → l i) (hl : ∀ k, k < ios.length → l k → ∀ i, preds (ancs ops) k i = true → l i)
    (hw : BoxW ks j t) (hcut : Cut ks ios.length (fun k => l k ∨ k = j) t i) : j + 1 ≤ i ∧ (Bs i)[t]? = (Bs (j + 1))[t]? := by
  have hji : j + 1 ≤ i := by
    rcases Nat.lt_or_ge j i with h | h
    · exact h
    · exact absurd (.inr rfl) (hcut.2.2 j h hj hw)
  refine ⟨hji, S.box_const hji hcut.1 fun k h1 h2 hwk => ?_⟩
  rcases hcut.2.1 k h2 hwk with h3 | h3
  · exact (S.touch_cut hj hn hp hl (.inr hw)).2.2 k (by omega) (by have := hcut.1; omega) hwk h3
  · omega

/-- A box that the operation touches: its content behind it. -/
theorem Inv.touch_bx (S : Steps P C vs n late ops ios Es Bs Hs ks xs) (I : Inv P C vs n ios Es Bs Hs ks W0 l a w ι K) {j t d i : Nat} {cs : List Value} (hj : j < ios.length) (hn : ¬ l j) (hp : ∀ i, preds (ancs ops) j i = true → l i)
    (hl : ∀ k, k < ios.length → l k → ∀ i, preds (ancs ops) k i = true → l i) (ht : Touches ks j t) (hcut : Cut ks ios.length (fun k => l k ∨ k = j) t i) (hd : C.B[t]? = some d) (hcs : (Bs i)[t]? = some cs) :
    ((ks j).bx (cutBx (Bs j) (ks j)))[t]? = some cs ∧ (BoxW ks j t → j + 1 ≤ i) := by
  have hlen : t < (cutBx (Bs j) (ks j)).length := by
    rw [cutBx_len, S.bx_len (Nat.le_of_lt hj), I.nb]; exact (List.getElem?_eq_some_iff.1 hd).1
  by_cases hw : BoxW ks j t
  · obtain ⟨h1, h2⟩ := new_cut S hj hn hp hl hw hcut
    refine ⟨?_, fun _ => h1⟩
    obtain ⟨io, hio⟩ := S.io hj
    rw [h2, S.bx j io hio] at hcs
    have hlen' : t < (Bs j).length := by simpa [cutBx_len] using hlen
    obtain ⟨c, hk | hk⟩ := hw
    · rw [hk] at hcs hlen ⊢
      simp only [Kd.bx] at hcs ⊢
      rw [List.getElem?_set_self hlen'] at hcs
      rw [List.getElem?_set_self hlen]; exact hcs
    · rw [hk] at hcs hlen ⊢
      simp only [Kd.bx] at hcs ⊢
      rw [List.getElem?_set_self hlen'] at hcs
      rw [List.getElem?_set_self hlen]; exact hcs
  · refine ⟨?_, fun h => absurd h hw⟩
    rcases ht with hk | ht
    · have h1 := cut_eq S (cut_same hw hcut) (S.touch_cut hj hn hp hl (.inl hk))
      rw [hk]
      simp only [Kd.bx]
      rw [cutBx_same (.inl rfl), ← h1]; exact hcs
    · exact absurd ht hw

/-- The row of a box that the operation touches. -/
theorem Inv.touch_row (S : Steps P C vs n late ops ios Es Bs Hs ks xs) (I : Inv P C vs n ios Es Bs Hs ks W0 l a w ι K) {j : Nat} (hj : j < ios.length) (hn : ¬ l j) (hp : ∀ i, preds (ancs ops) j i = true → l i)
    (hl : ∀ k, k < ios.length → l k → ∀ i, preds (ancs ops) k i = true → l i) {r : Nat} (h : rowsOf C (Bs j) (ks j) a r) : (∀ b L, ι b = some L → L.r ≠ r) ∧ W0.heap.size ≤ r := by
  obtain ⟨t', d', hk, hd', hr', cs', h1, h2⟩ := h
  have ht' : Touches ks j t' := by
    rcases hk with h | ⟨c, h⟩
    · exact .inl h
    · exact .inr ⟨c, .inl h⟩
  obtain ⟨r', Cs, e, g1, _, _, g4, g5⟩ := I.box t' d' j cs' (S.touch_cut hj hn hp hl ht') hd' h1 h2
  rw [hr'] at g1
  simp only [Option.some.injEq, Value.pointer.injEq, Addr.mk.injEq, and_true] at g1
  subst g1
  exact ⟨g4, g5⟩

theorem Inv.next_box (S : Steps P C vs n late ops ios Es Bs Hs ks xs) (hC : COk C) (I : Inv P C vs n ios Es Bs Hs ks W0 l a w ι K) {j v : Nat} {io : IOp} (hio : ios[j]? = some io) (hn : ¬ l j)
    (hp : ∀ i, preds (ancs ops) j i = true → l i) (hl : ∀ k, k < ios.length → l k → ∀ i, preds (ancs ops) k i = true → l i) (V : View n ios.length Hs ks l w ι K j v)
    {a' : Act} {y : Value} (ha : a' = a.put io.dst y) {w' : World} {ι' ι2 : Inj} {K2 : Nat → Nat} {env2 : Env} {H' : Heap}
    (R : RR P C (rowsOf C (Bs j) (ks j) a) (upto ι (Hs v).length) (Hs v) w ι' (cutVs vs io) env2 ((ks j).bx (cutBx (Bs j) (ks j))) H' a' w')
    (hs : ∀ i, Sub (upto ι (K i)) (upto ι2 (K2 i))) (hsn : Sub ι' (upto ι2 (K2 (j + 1)))) (hm : ∀ i k, i ≤ k → K2 i ≤ K2 k) (hb : ∀ b L, ι2 b = some L → ι b = some L ∨ ((Hs v).length ≤ b ∧ ι' b = some L))
    (t d i : Nat) (cs : List Value) (hcut : Cut ks ios.length (fun k => l k ∨ k = j) t i) (hd : C.B[t]? = some d) (hcs : (Bs i)[t]? = some cs) (hne : cs ≠ []) :
    ∃ r Cs e, a'.tmps[d]? = some (.pointer (some ⟨r, 0, none⟩)) ∧ w'.heap[r]? = some (.cells Cs e (0, 0)) ∧ LRel (CRel (upto ι2 (K2 i))) cs Cs.toList ∧ (∀ b L, ι2 b = some L → L.r ≠ r) ∧ W0.heap.size ≤ r := by
  have hj : j < ios.length := (List.getElem?_eq_some_iff.1 hio).1
  by_cases ht : Touches ks j t
  · obtain ⟨hbx, hafter⟩ := I.touch_bx S hj hn hp hl ht hcut hd hcs
    obtain ⟨r, Cs, e, g1, g2, g3, g4, g5⟩ := R.box t d cs hd hbx hne
    have hout : (∀ b L, ι b = some L → L.r ≠ r) ∧ W0.heap.size ≤ r := by
      rcases g5 with g5 | g5
      · exact ⟨fun b L h e => by have := I.heap.dom h; omega, Nat.le_trans I.ws g5⟩
      · exact I.touch_row S hj hn hp hl g5
    refine ⟨r, Cs, e, g1, g2, ?_, fun b L h => ?_, hout.2⟩
    · by_cases hi : j + 1 ≤ i
      · exact g3.mono fun _ _ h => h.mono (hsn.trans (upto_sub (hm _ _ hi)))
      · have hw : ¬ BoxW ks j t := fun h => hi (hafter h)
        obtain ⟨r0, Cs0, e0, _, _, q3, _⟩ := I.box t d i cs (cut_same hw hcut) hd hcs hne
        have hsub : Sub (upto ι (K i)) ι' := (upto_sub (V.le i (by omega))).trans (R.ext.sub V.sim)
        exact (LRel.restrict (T := CRel (upto ι (K i))) (fun _ _ _ h1 h2 => CRel.restrict hsub h1 h2) q3 g3).mono fun _ _ h => h.mono (hs i)
    · rcases hb b L h with h1 | ⟨_, h1⟩
      · exact hout.1 b L h1
      · exact g4 b L h1
  · exact I.next_apart_box S hC hio hn hp hl ha R.ext hs hb t d i cs ht hcut hd hcs hne

/-- A box had a content ahead of the operation that does not make it. -/
theorem cut_old (S : Steps P C vs n late ops ios Es Bs Hs ks xs) {j t i : Nat} {cs : List Value} {io : IOp} (hio : ios[j]? = some io) (hn : ¬ l j) (hp : ∀ i, preds (ancs ops) j i = true → l i) (hl : ∀ k, k < ios.length → l k → ∀ i, preds (ancs ops) k i = true → l i)
    (hmk : ∀ c, ks j ≠ .mk t c) (hcut : Cut ks ios.length (fun k => l k ∨ k = j) t i) (hcs : (Bs i)[t]? = some cs) (hne : cs ≠ []) :
    ∃ i0 cs0, Cut ks ios.length l t i0 ∧ (Bs i0)[t]? = some cs0 ∧ cs0 ≠ [] := by
  have hj : j < ios.length := (List.getElem?_eq_some_iff.1 hio).1
  by_cases hw : BoxW ks j t
  · have hw0 := hw
    obtain ⟨c, hk | hk⟩ := hw
    · have hsays := S.says j io hio
      rw [hk] at hsays
      obtain ⟨_, _, cs0, h1, h2⟩ := hsays
      refine ⟨j, cs0, S.touch_cut hj hn hp hl (.inr hw0), h1, ?_⟩
      obtain ⟨_, h3⟩ := new_cut S hj hn hp hl hw0 hcut
      rw [h3, S.bx j io hio, hk] at hcs
      simp only [Kd.bx] at hcs
      rw [List.getElem?_set_self (List.getElem?_eq_some_iff.1 h1).1] at hcs
      simp only [Option.some.injEq] at hcs; subst hcs
      rintro rfl
      exact hne (List.length_eq_zero_iff.1 h2)
    · exact absurd hk (hmk c)
  · exact ⟨i, cs, cut_same hw hcut, hcs, hne⟩

theorem Inv.next_apart (S : Steps P C vs n late ops ios Es Bs Hs ks xs) (hC : COk C) (I : Inv P C vs n ios Es Bs Hs ks W0 l a w ι K) {j v : Nat} {io : IOp} (hio : ios[j]? = some io) (hn : ¬ l j)
    (hp : ∀ i, preds (ancs ops) j i = true → l i) (hl : ∀ k, k < ios.length → l k → ∀ i, preds (ancs ops) k i = true → l i)
    {a' : Act} {y : Value} (ha : a' = a.put io.dst y) {w' : World} {ι' : Inj} {env2 : Env} {H' : Heap}
    (R : RR P C (rowsOf C (Bs j) (ks j) a) (upto ι (Hs v).length) (Hs v) w ι' (cutVs vs io) env2 ((ks j).bx (cutBx (Bs j) (ks j))) H' a' w')
    (t t' d d' i i' : Nat) (cs cs' : List Value) (r : Nat) (hcut : Cut ks ios.length (fun k => l k ∨ k = j) t i) (hcut' : Cut ks ios.length (fun k => l k ∨ k = j) t' i') (hd : C.B[t]? = some d) (hd' : C.B[t']? = some d')
    (hcs : (Bs i)[t]? = some cs) (hcs' : (Bs i')[t']? = some cs') (hne : cs ≠ []) (hne' : cs' ≠ []) (hr : a'.tmps[d]? = some (.pointer (some ⟨r, 0, none⟩))) (hr' : a'.tmps[d']? = some (.pointer (some ⟨r, 0, none⟩))) : t = t' := by
  have hj : j < ios.length := (List.getElem?_eq_some_iff.1 hio).1
  -- the temporaries of boxes that are not made stay
  have stay : ∀ {t d}, C.B[t]? = some d → (∀ c, ks j ≠ .mk t c) → a'.tmps[d]? = a.tmps[d]? := fun {t d} hd hmk => by
    rw [ha]
    refine put_other fun e => ?_
    obtain ⟨c, hk⟩ := S.make_kd hC hio e hd
    exact hmk c hk
  by_cases hmk : ∃ u c, ks j = .mk u c
  · obtain ⟨u, c, hk⟩ := hmk
    have mine : ∀ {t d i cs}, t = u → C.B[t]? = some d → Cut ks ios.length (fun k => l k ∨ k = j) t i → (Bs i)[t]? = some cs → cs ≠ [] → a'.tmps[d]? = some (.pointer (some ⟨r, 0, none⟩)) → w.heap.size ≤ r := fun {t d i cs} htu hd hcut hcs hne hr => by
      subst htu
      obtain ⟨hbx, _⟩ := I.touch_bx S hj hn hp hl (.inr ⟨c, .inr hk⟩) hcut hd hcs
      obtain ⟨r0, Cs, e, g1, _, _, _, g5⟩ := R.box t d cs hd hbx hne
      rw [hr] at g1
      simp only [Option.some.injEq, Value.pointer.injEq, Addr.mk.injEq, and_true] at g1
      subst g1
      rcases g5 with g5 | ⟨t2, d2, h2, _⟩
      · exact g5
      · rw [hk] at h2; simp at h2
    have others : ∀ {t d i cs}, t ≠ u → C.B[t]? = some d → Cut ks ios.length (fun k => l k ∨ k = j) t i → (Bs i)[t]? = some cs → cs ≠ [] → a'.tmps[d]? = some (.pointer (some ⟨r, 0, none⟩)) → r < w.heap.size ∧ Cut ks ios.length l t i ∧ a.tmps[d]? = some (.pointer (some ⟨r, 0, none⟩)) := fun {t d i cs} htu hd hcut hcs hne hr => by
      have hw : ¬ BoxW ks j t := fun ⟨c2, h⟩ => by
        rcases h with h | h <;> rw [hk] at h <;> simp at h
        exact htu h.1.symm
      have hcut0 := cut_same hw hcut
      obtain ⟨r0, Cs, e, g1, g2, _⟩ := I.box t d i cs hcut0 hd hcs hne
      rw [stay hd fun c2 h => hw ⟨c2, .inr h⟩] at hr
      rw [hr] at g1
      simp only [Option.some.injEq, Value.pointer.injEq, Addr.mk.injEq, and_true] at g1
      subst g1
      exact ⟨(Array.getElem?_eq_some_iff.1 g2).1, hcut0, hr⟩
    by_cases h1 : t = u
    · by_cases h2 : t' = u
      · rw [h1, h2]
      · have g1 := mine h1 hd hcut hcs hne hr
        have g2 := (others h2 hd' hcut' hcs' hne' hr').1
        omega
    · by_cases h2 : t' = u
      · have g1 := mine h2 hd' hcut' hcs' hne' hr'
        have g2 := (others h1 hd hcut hcs hne hr).1
        omega
      · obtain ⟨_, g1, g2⟩ := others h1 hd hcut hcs hne hr
        obtain ⟨_, g3, g4⟩ := others h2 hd' hcut' hcs' hne' hr'
        exact I.apart t t' d d' i i' cs cs' r g1 g3 hd hd' hcs hcs' hne hne' g2 g4
  · have hmk' : ∀ u c, ks j ≠ .mk u c := fun u c h => hmk ⟨u, c, h⟩
    obtain ⟨i0, c0, g1, g2, g3⟩ := cut_old S hio hn hp hl (hmk' t) hcut hcs hne
    obtain ⟨i1, c1, q1, q2, q3⟩ := cut_old S hio hn hp hl (hmk' t') hcut' hcs' hne'
    rw [stay hd (hmk' t)] at hr
    rw [stay hd' (hmk' t')] at hr'
    exact I.apart t t' d d' i0 i1 c0 c1 r g1 q1 hd hd' g2 q2 g3 q3 hr hr'

end
end Go.Proofs.Ytpnbojehfngigaa.IM

/- The ideal machine: a region whose order is drawn: the walk. -/
namespace Go.Proofs.Ytpnbojehfngigaa.IM
open Go
set_option linter.unusedVariables false
set_option linter.unusedSimpArgs false

/-- What is known of the world since the function was entered. -/
structure Since (ι0 : Inj) (H0 : Heap) (W0 : World) (ι : Inj) (w : World) : Prop where
  old : ∀ b, b < H0.length → ι b = ι0 b
  new : ∀ b L, H0.length ≤ b → ι b = some L → W0.heap.size ≤ L.r ∨ ∃ b0 L0, b0 < H0.length ∧ ι0 b0 = some L0 ∧ H0.live b0 ∧ L0.r = L.r
  os : w.os = W0.os
  tape : w.tape = W0.tape
  output : w.output = W0.output
  keep : ∀ r, r < W0.heap.size → (∀ b L, b < H0.length → ι0 b = some L → H0.live b → L.r ≠ r) → w.heap[r]? = W0.heap[r]?

def Grown (H0 H : Heap) : Prop := H0.length ≤ H.length ∧ ∀ b, b < H0.length → H.live b → H0.live b

structure AllOf (P : Program) (C : Cfg) (vs : List (Option Value)) (n : Nat) (ios : List IOp) (Es : Nat → Env) (Bs : Nat → List (List Value)) (Hs : Nat → Heap) (ks : Nat → Kd) (ι0 : Inj) (H0 : Heap) (W0 : World) (l : Nat → Prop) (a : Act) (w : World) (ι : Inj) (K : Nat → Nat) : Prop where
  inv : Inv P C vs n ios Es Bs Hs ks W0 l a w ι K
  since : Since ι0 H0 W0 ι w
  low : ∀ i, i ≤ min n ios.length → Grown H0 (Hs i)
  high : ∀ i, l i → ks i = .heap → Grown H0 (Hs (i + 1))

section
variable {P : Program} {C : Cfg} {vs : List (Option Value)} {n : Nat} {late : List Nat} {ops : List Oper} {ios : List IOp} {Es : Nat → Env} {Bs : Nat → List (List Value)} {Hs : Nat → Heap} {ks : Nat → Kd} {xs : Nat → Option EV}
  {l : Nat → Prop} {w W0 : World} {ι ι0 : Inj} {K : Nat → Nat} {a : Act} {H0 : Heap}

theorem Since.next (h : Since ι0 H0 W0 ι w) (ws : W0.heap.size ≤ w.heap.size) {H H' : Heap} (hg : Grown H0 H) {E : Nat → Prop} {ι' ι2 : Inj} {w' : World} (he : Ext E (upto ι H.length) ι' H H' w w') (hE : ∀ r, E r → W0.heap.size ≤ r) (hsub : Sub ι ι2)
    (hb : ∀ b L, ι2 b = some L → ι b = some L ∨ (H.length ≤ b ∧ ι' b = some L)) : Since ι0 H0 W0 ι2 w' := by
  have cover : ∀ b L, ι b = some L → H.live b → (b < H0.length ∧ ι0 b = some L ∧ H0.live b) ∨ W0.heap.size ≤ L.r ∨ ∃ b0 L0, b0 < H0.length ∧ ι0 b0 = some L0 ∧ H0.live b0 ∧ L0.r = L.r := by
    intro b L h1 h2
    by_cases hlt : b < H0.length
    · exact .inl ⟨hlt, by rw [← h.old b hlt]; exact h1, hg.2 b hlt h2⟩
    · exact .inr (h.new b L (by omega) h1)
  refine ⟨fun b hlt => ?_, fun b L hle h1 => ?_, he.os.trans h.os, he.tape.trans h.tape, he.output.trans h.output, fun r hr hn => ?_⟩
  · rw [← h.old b hlt]
    cases h1 : ι b with
    | some L => exact hsub b L h1
    | none =>
      cases h2 : ι2 b with
      | none => rfl
      | some L =>
        rcases hb b L h2 with h3 | ⟨h3, _⟩
        · rw [h1] at h3; simp at h3
        · have := hg.1; omega
  · rcases hb b L h1 with h2 | ⟨h2, h3⟩
    · exact h.new b L hle h2
    · rcases he.new b L h2 h3 with h4 | ⟨b0, L0, g1, g2, g3, g4⟩
      · exact .inl (Nat.le_trans ws h4)
      · rcases cover b0 L0 (upto_some.1 g2).2 g3 with ⟨q1, q2, q3⟩ | q | ⟨b1, L1, q1, q2, q3, q4⟩
        · exact .inr ⟨b0, L0, q1, q2, q3, g4⟩
        · exact .inl (by rw [← g4]; exact q)
        · exact .inr ⟨b1, L1, q1, q2, q3, q4.trans g4⟩
  · rw [← h.keep r hr hn]
    refine he.keep r (by omega) (fun b L h1 h2 h3 e => ?_) fun h1 => by have := hE r h1; omega
    rcases cover b L (upto_some.1 h2).2 h3 with ⟨q1, q2, q3⟩ | q | ⟨b1, L1, q1, q2, q3, q4⟩
    · exact hn b L q1 q2 q3 e
    · omega
    · exact hn b1 L1 q1 q2 q3 (q4.trans e)

theorem AllOf.next (S : Steps P C vs n late ops ios Es Bs Hs ks xs) (hC : COk C) (A : AllOf P C vs n ios Es Bs Hs ks ι0 H0 W0 l a w ι K) {j v : Nat} {io : IOp} (hio : ios[j]? = some io) (hn : ¬ l j)
    (hp : ∀ i, preds (ancs ops) j i = true → l i) (hl : ∀ k, k < ios.length → l k → ∀ i, preds (ancs ops) k i = true → l i) (V : View n ios.length Hs ks l w ι K j v)
    {a' : Act} {y : Value} (ha : a' = a.put io.dst y) {w' : World} {ι' : Inj}
    (R : RR P C (rowsOf C (Bs j) (ks j) a) (upto ι (Hs v).length) (Hs v) w ι' (cutVs vs io) (bind1 ((ks j).env (cutEnv (Es j) (rdTmps io))) io.dst (xs j)) ((ks j).bx (cutBx (Bs j) (ks j))) ((ks j).h (Hs (j + 1)) (Hs v)) a' w') :
    ∃ ι2 K2, AllOf P C vs n ios Es Bs Hs ks ι0 H0 W0 (fun i => l i ∨ i = j) a' w' ι2 K2 := by
  have I := A.inv
  have hj : j < ios.length := (List.getElem?_eq_some_iff.1 hio).1
  have hE : ∀ r b L, rowsOf C (Bs j) (ks j) a r → ι b = some L → L.r ≠ r := fun r b L h hb => (I.touch_row S hj hn hp hl h).1 b L hb
  obtain ⟨ι2, K2, hH, hs, hsn, hsub, hb⟩ := V.next _ ι' w' hE R.sim R.ext
  have hm : ∀ i k, i ≤ k → K2 i ≤ K2 k := fun i k h => hH.mono S h
  have hgv : Grown H0 (Hs v) := by
    rcases V.here with h | ⟨i0, h1, h2, h3⟩
    · exact A.low v h
    · rw [h1]; exact A.high i0 h2 h3
  refine ⟨ι2, K2, ⟨R.defers, R.size, hH, Nat.le_trans I.ws R.ext.size, fun i io' d hi hio' hd x hx => ?_, fun k d x hk hx hw => I.next_vars S hio ha hs k d x hk hx hw, I.nb,
    fun t d i cs hcut hd hcs hne => I.next_box S hC hio hn hp hl V ha R hs hsn hm hb t d i cs hcut hd hcs hne,
    fun t t' d d' i i' cs cs' r h1 h2 h3 h4 h5 h6 h7 h8 h9 h10 => I.next_apart S hC hio hn hp hl ha R t t' d d' i i' cs cs' r h1 h2 h3 h4 h5 h6 h7 h8 h9 h10⟩,
    A.since.next I.ws hgv R.ext (fun r h => (I.touch_row S hj hn hp hl h).2) hsub hb, A.low, fun i hi hk => ?_⟩
  · rcases hi with hi | rfl
    · exact I.next_old S hC hio hn ha hs i d io' hi hio' hd x hx
    · rw [hio] at hio'; simp only [Option.some.injEq] at hio'; subst hio'
      exact I.next_new S hC (v := v) hio hp R hsn d hd x hx
  · rcases hi with hi | rfl
    · exact A.high i hi hk
    · have hlen := R.ext.len
      have hdead := R.ext.dead
      rw [hk] at hlen hdead
      simp only [Kd.h] at hlen hdead
      exact ⟨Nat.le_trans hgv.1 hlen, fun b hb0 h0 => hgv.2 b hb0 (hdead b (by have := hgv.1; omega) h0)⟩

theorem Sim.gent {H H' : Heap} (h : Sim ι H w) (hg : Gent H H') : Sim ι H' w :=
  ⟨fun b L hb => ⟨Nat.lt_of_lt_of_le (h.dom b L hb).1 hg.1, (h.dom b L hb).2⟩, fun b L B h1 h2 => h.blk b L B h1 (by rw [hg.2 b (h.dom b L h1).1] at h2; exact h2),
   fun b b' L L' B B' h1 h2 h3 h4 h5 => h.inj b b' L L' B B' h1 h2 (by rw [hg.2 b (h.dom b L h1).1] at h3; exact h3) (by rw [hg.2 b' (h.dom b' L' h2).1] at h4; exact h4) h5⟩

theorem AllOf.start (S : Steps P C vs n late ops ios Es Bs Hs ks xs) (h : FR P C ι0 H0 W0 ι ⟨vs, Bs 0, Hs 0⟩ a w) {l : Nat → Prop} (hl : ∀ i, ¬ l i) :
    AllOf P C vs n ios Es Bs Hs ks ι0 H0 W0 l a w ι (fun j => (Hs (min j (min n ios.length))).length) := by
  have hdom : ∀ b L, ι b = some L → b < (Hs 0).length := fun b L hb => (h.sim.dom b L hb).1
  have hg : ∀ i, i ≤ min n ios.length → Gent (Hs 0) (Hs i) := fun i hi => S.gent (Nat.zero_le _) (by omega) (by omega)
  have hup : ∀ i, i ≤ min n ios.length → upto ι (Hs i).length = ι := fun i hi => upto_all fun b L hb => Nat.lt_of_lt_of_le (hdom b L hb) (hg i hi).1
  have hK : ∀ j, upto ι (Hs (min j (min n ios.length))).length = ι := fun j => hup _ (Nat.min_le_right _ _)
  have cut0 : ∀ {t j}, Cut ks ios.length l t j → (Bs j)[t]? = (Bs 0)[t]? := fun {t j} hc => S.box_const (Nat.zero_le _) hc.1 fun i _ hi hw => hl i (hc.2.1 i hi hw)
  refine ⟨⟨h.defers, h.size, .early rfl (fun i hi => by rw [hup i hi]; exact h.sim.gent (hg i hi)) (fun b L hb => Nat.lt_of_lt_of_le (hdom b L hb) (hg _ (Nat.le_refl _)).1) (fun j hj _ b h1 _ => ?_) (fun j hj => absurd hj (hl j)), h.ext.size,
    fun i io d hi => absurd hi (hl i), fun k d x hk hx _ => ?_, h.nb, fun t d j cs hc hd hcs hne => ?_, fun t t' d d' j j' cs cs' r h1 h2 h3 h4 h5 h6 h7 h8 h9 h10 => ?_⟩,
    ⟨h.ext.old, h.ext.new, h.ext.os, h.ext.tape, h.ext.output, fun r h1 h2 => h.ext.keep r h1 h2 (fun h => h)⟩, fun i hi => ?_, fun i hi => absurd hi (hl i)⟩
  · cases hq : ι b with
    | none => rfl
    | some L => have := hdom b L hq; have := (hg j (by omega)).1; omega
  · obtain ⟨y, h1, h2⟩ := h.vars k d x hk hx
    exact ⟨y, h1, by rw [hK]; exact h2⟩
  · rw [cut0 hc] at hcs
    obtain ⟨r, Cs, e, g1, g2, g3, g4, g5⟩ := h.box t d cs hd hcs hne
    exact ⟨r, Cs, e, g1, g2, by rw [hK]; exact g3, g4, g5⟩
  · rw [cut0 h1] at h5
    rw [cut0 h2] at h6
    exact h.apart t t' d d' cs cs' r h3 h4 h5 h6 h7 h8 h9 h10
  · refine ⟨Nat.le_trans h.ext.len (hg i hi).1, fun b hb h0 => ?_⟩
    obtain ⟨B, h1, h2⟩ := h0
    rw [(hg i hi).2 b (Nat.lt_of_lt_of_le hb h.ext.len)] at h1
    exact h.ext.dead b hb ⟨B, h1, h2⟩

theorem AllOf.finish (S : Steps P C vs n late ops ios Es Bs Hs ks xs) (A : AllOf P C vs n ios Es Bs Hs ks ι0 H0 W0 l a w ι K) (hall : ∀ i, i < ios.length → l i) :
    RR P C noE ι0 H0 W0 ι vs (Es ios.length) (Bs ios.length) (Hs ios.length) a w := by
  have I := A.inv
  have EA := S.envAt (Nat.le_refl ios.length)
  have hcut : ∀ t, Cut ks ios.length l t ios.length := fun t => ⟨Nat.le_refl _, fun i hi _ => hall i hi, fun i h1 h2 => by omega⟩
  have hheap : Sim ι (Hs ios.length) w ∧ Grown H0 (Hs ios.length) := by
    cases I.heap with
    | early hK hs hd hf hlow =>
      have e : Hs ios.length = Hs (min n ios.length) := S.heap_const (Nat.min_le_right _ _) (Nat.le_refl _) fun i h1 h2 hk => by
        have := hlow i (hall i h2) hk; omega
      rw [e]
      refine ⟨?_, A.low _ (Nat.le_refl _)⟩
      have := hs _ (Nat.le_refl _)
      rw [upto_all hd] at this
      exact this
    | later i0 h1 h2 h3 h4 hK hdone htodo hsim =>
      have e : Hs ios.length = Hs (i0 + 1) := S.heap_const (by omega) (Nat.le_refl _) fun i g1 g2 hk => htodo i g1 hk (hall i g2)
      rw [e]
      exact ⟨hsim, A.high i0 h4 h3⟩
  refine ⟨I.defers, I.size, hheap.1, ⟨hheap.2.1, hheap.2.2, A.since.old, A.since.new, A.since.os, A.since.tape, A.since.output, I.ws, fun r h1 h2 _ => A.since.keep r h1 h2⟩, fun d x hx => ?_, fun k d x hk hx hnone => ?_,
    by rw [S.bx_len (Nat.le_refl _)]; exact I.nb, fun t d cs hd hc hne => ?_, fun t t' d d' cs cs' r h1 h2 h3 h4 h5 h6 h7 h8 => I.apart t t' d d' _ _ cs cs' r (hcut t) (hcut t') h1 h2 h3 h4 h5 h6 h7 h8⟩
  · obtain ⟨i, io, hi, hio, hd⟩ := (EA.dom d).2 ⟨x, hx⟩
    rcases S.keep_val hio hd (by omega) (Nat.le_refl _) hx with h1 | rfl
    · obtain ⟨y, g1, g2⟩ := I.tmps i io d (hall i hi) hio hd x h1
      refine ⟨y, g1, ?_⟩
      cases x with
      | adr t o =>
        obtain ⟨⟨d', r, q1, q2, q3⟩, _⟩ := g2
        intro cs _ _
        exact ⟨d', r, q1, q2, q3⟩
      | non => trivial
      | val u => exact VRel.mono upto_le g2
      | tup u => exact VRel.mono upto_le g2
    · have hlt := (S.ok io (List.mem_of_getElem? hio)).lt d hd
      rw [← I.size] at hlt
      exact ⟨_, Array.getElem?_eq_getElem hlt, trivial⟩
  · obtain ⟨y, g1, g2⟩ := I.vars k d x hk hx fun i io hi hio hd => by
      obtain ⟨z, hz⟩ := (EA.dom d).1 ⟨i, io, (List.getElem?_eq_some_iff.1 hio).1, hio, hd⟩
      rw [hnone] at hz; simp at hz
    exact ⟨y, g1, g2.mono upto_le⟩
  · obtain ⟨r, Cs, e, g1, g2, g3, g4, g5⟩ := I.box t d _ cs (hcut t) hd hc hne
    exact ⟨r, Cs, e, g1, g2, g3.mono fun _ _ h => h.mono upto_le, g4, .inl g5⟩

end

theorem ready_mem {ops : Array Oper} {listed : Array Bool} {i : Nat} (h : i ∈ Region.ready .any ops listed) : i < ops.size ∧ listed.getD i true = false ∧ ∃ o, ops[i]? = some o ∧ ∀ e ∈ o.after.toList, Region.binds .any e = true → listed[e.on]? = some true := by
  unfold Region.ready at h
  rw [List.mem_filter] at h
  obtain ⟨h1, h2⟩ := h
  simp only [List.mem_range] at h1
  simp only [Bool.and_eq_true, Bool.not_eq_true'] at h2
  refine ⟨h1, h2.1, ops[i], Array.getElem?_eq_getElem h1, fun e he hb => ?_⟩
  have h3 := h2.2
  rw [Array.getElem?_eq_getElem h1] at h3
  simp only [Option.map_some, Option.getD_some, Array.all_eq_true'] at h3
  have := h3 e (by simpa using he)
  rw [hb] at this
  simp only [Bool.not_true, Bool.false_or] at this
  rw [Array.getD_eq_getD_getElem?] at this
  cases hq : listed[e.on]? with
  | none => rw [hq] at this; simp at this
  | some b => rw [hq] at this; simpa using this

theorem mem_ready {ops : Array Oper} {listed : Array Bool} {i : Nat} {o : Oper} (ho : ops[i]? = some o) (hl : listed[i]? = some false) (ha : ∀ e ∈ o.after.toList, Region.binds .any e = true → listed[e.on]? = some true) : i ∈ Region.ready .any ops listed := by
  unfold Region.ready
  rw [List.mem_filter]
  refine ⟨by simpa using (Array.getElem?_eq_some_iff.1 ho).1, ?_⟩
  rw [ho, Array.getD_eq_getD_getElem?, hl]
  simp only [Option.getD_some, Bool.not_false, Bool.true_and, Option.map_some, Array.all_eq_true']
  intro e he
  cases hb : Region.binds .any e with
  | false => rfl
  | true =>
    have := ha e (by simpa using he) hb
    simp [Array.getD_eq_getD_getElem?, this]

section
variable {P : Program} {C : Cfg} {vs : List (Option Value)} {n : Nat} {late : List Nat} {ops : Array Oper} {ios : List IOp} {Es : Nat → Env} {Bs : Nat → List (List Value)} {Hs : Nat → Heap} {ks : Nat → Kd} {xs : Nat → Option EV}
  {w W0 : World} {ι ι0 : Inj} {K : Nat → Nat} {a : Act} {H0 : Heap}

theorem Kd.alike_cut {k : Kd} {bx : List (List Value)} {H H2 : Heap} (h : HAlike k H H2) : k.alike bx (cutBx bx k) H H2 := by
  cases k with
  | pure => trivial
  | rd t => exact cutBx_same (.inl rfl)
  | wr t c => exact cutBx_same (.inr ⟨c, rfl⟩)
  | mk t c => trivial
  | ldh p m => exact h
  | heap => exact h

theorem walk (S : Steps P C vs n late ops.toList ios Es Bs Hs ks xs) (hC : COk C) (hc : cOpers P C ops ops.toList = some ios) {Q : Exit → Act → World → Prop}
    (hQ : ∀ ι' a' w', RR P C noE ι0 H0 W0 ι' vs (Es ios.length) (Bs ios.length) (Hs ios.length) a' w' → Q .normal a' w') : ∀ (fuel : Nat) (listed : Array Bool) (a : Act) (w : World) (ι : Inj) (K : Nat → Nat), listed.size = ops.size →
    Closed ops.toList (fun i => listed[i]? = some true) → listed.count false ≤ fuel → AllOf P C vs n ios Es Bs Hs ks ι0 H0 W0 (fun i => listed[i]? = some true) a w ι K → wpAny P .any ops Q fuel listed a w := by
  obtain ⟨hlen, hget⟩ := cOpers_get hc
  have hsz : ops.size = ios.length := by simpa using hlen
  -- what is not listed gives something that is ready
  have done : ∀ (listed : Array Bool), listed.size = ops.size → Region.ready .any ops listed = [] → ∀ i, i < ios.length → listed[i]? = some true := by
    intro listed hs hr i
    induction i using Nat.strongRecOn with
    | _ i ih =>
      intro hi
      have hi2 : i < listed.size := by omega
      cases hq : listed[i] with
      | true => rw [Array.getElem?_eq_getElem hi2, hq]
      | false =>
        exfalso
        have ho : ops[i]? = some ops[i] := Array.getElem?_eq_getElem (by omega)
        have hm := mem_ready (listed := listed) ho (by rw [Array.getElem?_eq_getElem hi2, hq]) fun e he hb => by
          have := S.ord.back i _ (by rw [Array.getElem?_toList]; exact ho) e he hb
          exact ih e.on this (by omega)
        rw [hr] at hm; simp at hm
  intro fuel
  induction fuel with
  | zero =>
    intro listed a w ι K hs hcl hf A
    have hno : ∀ i ∈ Region.ready .any ops listed, False := by
      intro i hi
      obtain ⟨h1, h2, _⟩ := ready_mem hi
      rw [Array.getD_eq_getD_getElem?, Array.getElem?_eq_getElem (by omega)] at h2
      simp only [Option.getD_some] at h2
      have : 0 < listed.count false := Array.count_pos_iff.2 (by rw [← h2]; exact Array.getElem_mem _)
      omega
    have hr : Region.ready .any ops listed = [] := List.eq_nil_iff_forall_not_mem.2 fun i hi => hno i hi
    exact ⟨hr, hQ ι a w (A.finish S (done listed hs hr))⟩
  | succ fuel ih =>
    intro listed a w ι K hs hcl hf A
    refine ⟨fun hr => hQ ι a w (A.finish S (done listed hs hr)), fun j hj => ?_⟩
    obtain ⟨h1, h2, o, ho, hafter⟩ := ready_mem hj
    have hj2 : j < listed.size := by omega
    have hjf : listed[j] = false := by
      rw [Array.getD_eq_getD_getElem?, Array.getElem?_eq_getElem hj2] at h2
      simpa using h2
    have hn : ¬ listed[j]? = some true := by rw [Array.getElem?_eq_getElem hj2, hjf]; simp
    obtain ⟨io, hio⟩ := S.io (show j < ios.length by omega)
    obtain ⟨o', ho', hcop⟩ := hget j io hio
    rw [Array.getElem?_toList, ho] at ho'; simp only [Option.some.injEq] at ho'; subst ho'
    have hback := S.ord.back
    have hp : ∀ i, preds (ancs ops.toList) j i = true → listed[i]? = some true := fun i hi => closed_preds hback hcl j i o (by rw [Array.getElem?_toList]; exact ho) hafter hi
    have hl : ∀ k, k < ios.length → listed[k]? = some true → ∀ i, preds (ancs ops.toList) k i = true → listed[i]? = some true := fun k hk hlk i hi => by
      have hok : ops.toList[k]? = some ops[k] := by rw [Array.getElem?_toList]; exact Array.getElem?_eq_getElem (by omega)
      exact closed_preds hback hcl k i _ hok (hcl k _ hok hlk) hi
    obtain ⟨v, V⟩ := A.inv.heap.view S (show j < ios.length by omega) hn hp hl fun k hk => by have := (Array.getElem?_eq_some_iff.1 hk).1; omega
    have EA := S.envAt (show j ≤ ios.length by omega)
    have hrr := A.inv.rr S hio hn hp hl V (fun d hd => hC.lt d (by simp [hd])) fun d _ x hx => by
      obtain ⟨i, y, _, hy, hdy⟩ := (EA.dom d).2 ⟨x, hx⟩
      exact (S.ok y (List.mem_of_getElem? hy)).lt d hdy
    have hst := S.again j io hio (cutVs vs io) (cutEnv (Es j) (rdTmps io)) (cutBx (Bs j) (ks j)) (Hs v) cut_ev cut_want (Kd.alike_cut V.alike)
    refine step_wp hC hcop ho hst hrr fun ι' a' w' ⟨y, ha⟩ R => ?_
    rw [← (cOper_spec hcop).1] at ha
    obtain ⟨ι2, K2, A2⟩ := A.next S hC hio hn hp hl V ha R
    have hset : (fun i => (listed.setIfInBounds j true)[i]? = some true) = fun i => listed[i]? = some true ∨ i = j := by
      funext i
      by_cases hij : i = j
      · subst hij; simp [hj2]
      · rw [Array.getElem?_setIfInBounds_ne (fun e => hij e.symm)]; simp [hij]
    refine ih (listed.setIfInBounds j true) a' w' ι2 K2 (by simpa using hs) ?_ ?_ (by rw [hset]; exact A2)
    · rw [hset]
      intro k ok hok hk e he hb
      rcases hk with hk | rfl
      · exact .inl (hcl k ok hok hk e he hb)
      · rw [Array.getElem?_toList, ho] at hok; simp only [Option.some.injEq] at hok; subst hok
        exact .inl (hafter e he hb)
    · have : listed.setIfInBounds j true = listed.set j true hj2 := by simp [Array.setIfInBounds, hj2]
      rw [this, Array.count_set hj2, hjf]
      simp
      omega

theorem draw_wp (hC : COk C) {id : Nat} (hc : cOpers P C ops ops.toList = some ios) (ho : orderOk ops.toList ios n late = true) (hm : P.follows .mixedOrders = true)
    (T : Trace P vs n late ios Es Bs Hs) (h0 : Es 0 = [])
    (h : FR P C ι0 H0 W0 ι ⟨vs, Bs 0, Hs 0⟩ a w) {Q : Exit → Act → World → Prop}
    (hQ : ∀ ι' a' w', RR P C noE ι0 H0 W0 ι' vs (Es ios.length) (Bs ios.length) (Hs ios.length) a' w' → Q .normal a' w') :
    (Code.region id ops true).wp P Q a w := by
  obtain ⟨hlen, hget⟩ := cOpers_get hc
  obtain ⟨ks, xs, S⟩ := steps_of T h0 (order_spec ho) fun io hio => by
    obtain ⟨i, hi⟩ := List.getElem?_of_mem hio
    obtain ⟨o, _, hco⟩ := hget i io hi
    exact cOper_ok hco
  have h' : FR P C ι0 H0 W0 ι ⟨vs, Bs 0, Hs 0⟩ a { w with drawn := w.drawn + 1 } :=
    ⟨h.defers, h.size, ⟨h.sim.dom, fun b L B h1 h2 => (h.sim.blk b L B h1 h2).of_heap rfl, h.sim.inj⟩, ⟨h.ext.len, h.ext.dead, h.ext.old, h.ext.new, h.ext.os, h.ext.tape, h.ext.output, h.ext.size, h.ext.keep⟩, h.vars, h.nv, h.nb, h.box, h.apart⟩
  have hnot : ∀ i, ¬ (Array.replicate ops.size false)[i]? = some true := fun i hi => by
    rw [Array.getElem?_replicate] at hi
    split at hi <;> simp at hi
  refine wp_region_any hm (walk S hC hc hQ ops.size _ a _ ι _ (by simp) (fun j o _ hj => absurd hj (hnot j)) ?_ (AllOf.start S h' hnot))
  simp

end
end Go.Proofs.Ytpnbojehfngigaa.IM

/- The ideal machine: the rules of the small code. -/
namespace Go.Proofs.Ytpnbojehfngigaa.IM
open Go
set_option linter.unusedVariables false
set_option linter.unusedSimpArgs false

section
variable {P : Program} {C : Cfg}

theorem trace_keys {vs : List (Option Value)} {n : Nat} {late : List Nat} {ios : List IOp} {Es : Nat → Env} {Bs : Nat → List (List Value)} {Hs : Nat → Heap} (T : Trace P vs n late ios Es Bs Hs) (h0 : Es 0 = []) :
    ∀ j, j ≤ ios.length → ∀ {d : Nat} {y : EV}, lk (Es j) d = some y → ∃ io ∈ ios, io.dst = some d := by
  intro j
  induction j with
  | zero => intro _ d y h; rw [h0] at h; simp [lk] at h
  | succ j ih =>
    intro hj d y h
    obtain ⟨io, hio⟩ : ∃ io, ios[j]? = some io := ⟨_, List.getElem?_eq_getElem (by omega)⟩
    rcases step1_keys (T.step j io hio) h with h1 | ⟨z, h1⟩
    · exact ⟨io, List.mem_of_getElem? hio, h1⟩
    · exact ih (by omega) h1

/-- A region: what comes behind it. -/
theorem draw_reg (hC : COk C) {ops : Array Oper} {id : Nat} {ios : List IOp} {keep : List (Nat × Nat)} {n : Nat} {late : List Nat} (hr : cReg P C ops true = some (ios, keep, some (n, late))) (hm : P.follows .mixedOrders = true)
    {vs vs' : List (Option Value)} {Es : Nat → Env} {Bs : Nat → List (List Value)} {Hs : Nat → Heap} (hnv : vs.length = C.K.length) (T : Trace P vs n late ios Es Bs Hs) (h0 : Es 0 = []) (hf : fin (Es ios.length) keep vs = some vs')
    {ι0 ι : Inj} {H0 : Heap} {W0 w : World} {a : Act} (h : FR P C ι0 H0 W0 ι ⟨vs, Bs 0, Hs 0⟩ a w) :
    (Code.region id ops true).wp P (fun e' a' w' => e' = .normal ∧ ∃ ι', FR P C ι0 H0 W0 ι' ⟨vs', Bs ios.length, Hs ios.length⟩ a' w' ∧ RR P C noE ι0 H0 W0 ι' vs (Es ios.length) (Bs ios.length) (Hs ios.length) a' w') a w := by
  obtain ⟨h1, h2, h3⟩ := cReg_spec hr
  simp only at h1 h2 h3
  subst h2
  rcases h3 with ⟨h, _⟩ | ⟨_, n', late', he, ho⟩
  · simp at h
  · simp only [Option.some.injEq, Prod.mk.injEq] at he; obtain ⟨rfl, rfl⟩ := he
    exact draw_wp hC h1 ho hm T h0 h (fun ι' a' w' h' => ⟨rfl, ι', h'.done hC (fun hl => cOpers_dst h1 (trace_keys T h0 _ (Nat.le_refl _) hl)) hf hnv, h'⟩)

theorem reg_wp (hC : COk C) {ops : Array Oper} {id : Nat} {draw : Bool} {ios : List IOp} {keep : List (Nat × Nat)} {dn : Option Nat} (hr : cReg P C ops draw = some (ios, keep, dn.map fun n => (n, []))) (hm : P.follows .mixedOrders = true)
    {vs vs' : List (Option Value)} {bx bx' : List (List Value)} {H H' : Heap} {env' : Env} (hnv : vs.length = C.K.length) (hrun : Run1 P vs (dn.getD 0) ios [] bx H env' bx' H') (hf : fin env' keep vs = some vs')
    {ι0 ι : Inj} {H0 : Heap} {W0 w : World} {a : Act} (h : FR P C ι0 H0 W0 ι ⟨vs, bx, H⟩ a w) :
    (Code.region id ops draw).wp P (fun e' a' w' => e' = .normal ∧ ∃ ι', FR P C ι0 H0 W0 ι' ⟨vs', bx', H'⟩ a' w' ∧ RR P C noE ι0 H0 W0 ι' vs env' bx' H' a' w') a w := by
  have hr' := hr
  obtain ⟨h1, h2, h3⟩ := cReg_spec hr
  simp only at h1 h2 h3
  have hkeys : ∀ {d : Nat} {y : EV}, lk env' d = some y → ∃ o ∈ ops.toList, o.dst = some d := fun hl => by
    rcases run1_keys hrun hl with h | ⟨z, h⟩
    · exact cOpers_dst h1 h
    · simp [lk] at h
  rcases h3 with ⟨rfl, hn⟩ | ⟨rfl, n, late, hn, ho⟩
  · have : dn = none := by cases dn <;> simp_all
    subst this
    subst h2
    refine wp_region ?_
    have := run_seq hC ops.toList 0 ios 0 [] bx H ι a w h1 rfl hrun (RR.start h) (Q := fun e' a' w' => e' = .normal ∧ ∃ ι', FR P C ι0 H0 W0 ι' ⟨vs', bx', H'⟩ a' w' ∧ RR P C noE ι0 H0 W0 ι' vs env' bx' H' a' w')
      (fun ι' a' w' h' => ⟨rfl, ι', h'.done hC hkeys hf hnv, h'⟩)
    rw [List.range_eq_range']
    simpa using this
  · cases dn with
    | none => simp at hn
    | some m =>
      simp only [Option.map_some, Option.some.injEq, Prod.mk.injEq] at hn
      obtain ⟨rfl, rfl⟩ := hn
      obtain ⟨Es, Bs, Hs, e1, e2, e3, e4, e5, e6, T⟩ := hrun.trace
      subst e4 e5 e6
      exact draw_reg hC hr' hm hnv T e1 hf (by rw [e2, e3]; exact h)

theorem cCode_skip {c : Code} (h : cCode P C c = some .skip) : c = .skip := by
  unfold cCode at h
  split at h <;> first | rfl | (simp at h; done) | (repeat' split at h) <;> simp at h

theorem cCode_exit {c : Code} {i : Nat} (h : cCode P C c = some (.exit i)) : c = .exit i := by
  unfold cCode at h
  split at h <;> first | (simp at h; done) | (simp only [Option.some.injEq, IC.exit.injEq] at h; subst h; rfl) | (repeat' split at h) <;> simp at h

theorem cCode_ret {c : Code} (h : cCode P C c = some .ret) : c = .ret := by
  unfold cCode at h
  split at h <;> first | rfl | (simp at h; done) | (repeat' split at h) <;> simp at h

theorem cCode_block {c : Code} {i : Nat} {a : IC} (h : cCode P C c = some (.block i a)) : ∃ b, c = .block i b ∧ cCode P C b = some a := by
  unfold cCode at h
  split at h
  case h_6 i' b =>
    cases hb : cCode P C b with
    | none => rw [hb] at h; simp at h
    | some x => rw [hb] at h; simp only [Option.map_some, Option.some.injEq, IC.block.injEq] at h; obtain ⟨rfl, rfl⟩ := h; exact ⟨b, rfl, hb⟩
  all_goals first | (simp at h; done) | ((repeat' split at h) <;> simp at h)

theorem cCode_loop {c : Code} {a : IC} (h : cCode P C c = some (.loop a)) : ∃ b, c = .loop b ∧ cCode P C b = some a := by
  unfold cCode at h
  split at h
  case h_7 b =>
    cases hb : cCode P C b with
    | none => rw [hb] at h; simp at h
    | some x => rw [hb] at h; simp only [Option.map_some, Option.some.injEq, IC.loop.injEq] at h; subst h; exact ⟨b, rfl, hb⟩
  all_goals first | (simp at h; done) | ((repeat' split at h) <;> simp at h)

theorem cCode_seq {c : Code} {a b : IC} (h : cCode P C c = some (.seq a b)) : ∃ x y, c = .seq x y ∧ cCode P C x = some a ∧ cCode P C y = some b := by
  unfold cCode at h
  split at h
  case h_4 x y _ =>
    split at h
    · rename_i a' b' h1 h2
      simp only [Option.some.injEq, IC.seq.injEq] at h; obtain ⟨rfl, rfl⟩ := h
      exact ⟨x, y, rfl, h1, h2⟩
    · simp at h
  all_goals first | (simp at h; done) | ((repeat' split at h) <;> simp at h)

theorem cCode_cond {c : Code} {o : IOpd} {a b : IC} (h : cCode P C c = some (.cond o a b)) : ∃ o' x y, c = .cond o' x y ∧ cOpd C o' = some o ∧ cCode P C x = some a ∧ cCode P C y = some b := by
  unfold cCode at h
  split at h
  case h_5 o' x y =>
    split at h
    · rename_i o1 a' b' h0 h1 h2
      simp only [Option.some.injEq, IC.cond.injEq] at h; obtain ⟨rfl, rfl, rfl⟩ := h
      exact ⟨o', x, y, rfl, h0, h1, h2⟩
    · simp at h
  all_goals first | (simp at h; done) | ((repeat' split at h) <;> simp at h)

theorem cCode_reg {c : Code} {ios : List IOp} {keep : List (Nat × Nat)} {dn : Option Nat} (h : cCode P C c = some (.reg ios keep dn)) : ∃ id ops draw, c = .region id ops draw ∧ cReg P C ops draw = some (ios, keep, dn.map fun n => (n, [])) := by
  unfold cCode at h
  split at h
  case h_2 id ops draw =>
    split at h
    · rename_i hr
      simp only [Option.some.injEq, IC.reg.injEq] at h; obtain ⟨rfl, rfl, rfl⟩ := h
      exact ⟨id, ops, draw, rfl, hr⟩
    · rename_i hr
      simp only [Option.some.injEq, IC.reg.injEq] at h; obtain ⟨rfl, rfl, rfl⟩ := h
      exact ⟨id, ops, draw, rfl, hr⟩
    · simp at h
    · simp at h
  all_goals first | (simp at h; done) | ((repeat' split at h) <;> simp at h)

theorem cCode_regl {c : Code} {ios : List IOp} {keep : List (Nat × Nat)} {n : Nat} {late : List Nat} (h : cCode P C c = some (.regl ios keep n late)) : ∃ id ops draw, c = .region id ops draw ∧ cReg P C ops draw = some (ios, keep, some (n, late)) := by
  unfold cCode at h
  split at h
  case h_2 id ops draw =>
    split at h
    · simp at h
    · simp at h
    · rename_i hr
      simp only [Option.some.injEq, IC.regl.injEq] at h; obtain ⟨rfl, rfl, rfl, rfl⟩ := h
      exact ⟨id, ops, draw, rfl, hr⟩
    · simp at h
  all_goals first | (simp at h; done) | ((repeat' split at h) <;> simp at h)

theorem cCode_regc {c : Code} {ios : List IOp} {keep : List (Nat × Nat)} {dn : Option Nat} {o : IOpd} {a b : IC} (h : cCode P C c = some (.regc ios keep dn o a b)) :
    ∃ id ops draw o' x y, c = .seq (.region id ops draw) (.cond o' x y) ∧ cReg P C ops draw = some (ios, keep, dn.map fun n => (n, [])) ∧ cOpd C o' = some o ∧ cCode P C x = some a ∧ cCode P C y = some b := by
  unfold cCode at h
  split at h
  case h_3 id ops draw o' x y =>
    split at h
    · rename_i h0 h1 h2 h3
      simp only [Option.some.injEq, IC.regc.injEq] at h; obtain ⟨rfl, rfl, rfl, rfl, rfl, rfl⟩ := h
      exact ⟨id, ops, draw, o', x, y, rfl, h0, h1, h2, h3⟩
    · rename_i h0 h1 h2 h3
      simp only [Option.some.injEq, IC.regc.injEq] at h; obtain ⟨rfl, rfl, rfl, rfl, rfl, rfl⟩ := h
      exact ⟨id, ops, draw, o', x, y, rfl, h0, h1, h2, h3⟩
    · simp at h
  case h_2 =>
    split at h <;> simp at h
  all_goals first | (simp at h; done) | ((repeat' split at h) <;> simp at h)

/-- The code comes to just this state. -/
theorem Det.skip {st : St} : Det P C .skip st .normal st := fun c hc ι0 H0 W0 ι a w h => by
  rw [cCode_skip hc]; exact wp_skip ⟨rfl, ι, h⟩

theorem Det.exit {i : Nat} {st : St} : Det P C (.exit i) st (.exit i) st := fun c hc ι0 H0 W0 ι a w h => by
  rw [cCode_exit hc]; exact wp_exit ⟨rfl, ι, h⟩

theorem Det.ret {st : St} : Det P C .ret st .ret st := fun c hc ι0 H0 W0 ι a w h => by
  rw [cCode_ret hc]; exact wp_ret ⟨rfl, ι, h⟩

theorem Det.seq {x y : IC} {st st1 st2 : St} {e : IExit} (h1 : Det P C x st .normal st1) (h2 : Det P C y st1 e st2) : Det P C (.seq x y) st e st2 := fun c hc ι0 H0 W0 ι a w h => by
  obtain ⟨cx, cy, rfl, hx, hy⟩ := cCode_seq hc
  refine wp_seq (wp_mono (h1 cx hx ι0 H0 W0 ι a w h) fun e' a' w' he => ?_)
  obtain ⟨rfl, ι', h'⟩ := he
  exact h2 cy hy ι0 H0 W0 ι' a' w' h'

theorem Det.seq_out {x y : IC} {st st1 : St} {e : IExit} (h1 : Det P C x st e st1) (hn : e ≠ .normal) : Det P C (.seq x y) st e st1 := fun c hc ι0 H0 W0 ι a w h => by
  obtain ⟨cx, cy, rfl, hx, hy⟩ := cCode_seq hc
  refine wp_seq (wp_mono (h1 cx hx ι0 H0 W0 ι a w h) fun e' a' w' he => ?_)
  obtain ⟨rfl, ι', h'⟩ := he
  cases e with
  | normal => exact absurd rfl hn
  | exit i => exact ⟨rfl, ι', h'⟩
  | ret => exact ⟨rfl, ι', h'⟩

theorem Det.cond {o : IOpd} {x y : IC} {st st1 : St} {e : IExit} {t : Bool} (ho : ev [] st.v o = some (.val (.bool t))) (h1 : Det P C (if t then x else y) st e st1) : Det P C (.cond o x y) st e st1 := fun c hc ι0 H0 W0 ι a w h => by
  obtain ⟨o', cx, cy, rfl, h2, hx, hy⟩ := cCode_cond hc
  have hb := (ERel.val (cOpd_rel (RR.start (vs := st.v) (bx := st.bx) (H := st.h) h) h2 ho)).bool
  refine wp_cond hb ?_
  cases t with
  | true => exact h1 cx hx ι0 H0 W0 ι a w h
  | false => exact h1 cy hy ι0 H0 W0 ι a w h

theorem Det.block {i : Nat} {x : IC} {st st1 : St} {e : IExit} (h1 : Det P C x st e st1) : Det P C (.block i x) st (if e = .exit i then .normal else e) st1 := fun c hc ι0 H0 W0 ι a w h => by
  obtain ⟨cx, rfl, hx⟩ := cCode_block hc
  refine wp_block (wp_mono (h1 cx hx ι0 H0 W0 ι a w h) fun e' a' w' he => ?_)
  obtain ⟨rfl, ι', h'⟩ := he
  cases e with
  | normal => exact ⟨rfl, ι', h'⟩
  | ret => exact ⟨rfl, ι', h'⟩
  | exit j =>
    simp only [IExit.to, Exit.inBlock]
    by_cases hj : j = i
    · subst hj; rw [if_pos rfl, if_pos rfl]; exact ⟨rfl, ι', h'⟩
    · rw [if_neg hj, if_neg (by simpa using hj)]; exact ⟨rfl, ι', h'⟩

/-- The rounds of a loop. -/
inductive Rounds (P : Program) (C : Cfg) (x : IC) : St → IExit → St → Prop where
  | out {st st1 : St} {e : IExit} : Det P C x st e st1 → e ≠ .normal → Rounds P C x st e st1
  | more {st st1 st2 : St} {e : IExit} : Det P C x st .normal st1 → Rounds P C x st1 e st2 → Rounds P C x st e st2

theorem rounds_out {x : IC} {st st1 : St} {e : IExit} (h : Rounds P C x st e st1) : e ≠ .normal := by
  induction h with
  | out _ h => exact h
  | more _ _ ih => exact ih

theorem rounds_wp {x : IC} {st st1 : St} {e : IExit} (h : Rounds P C x st e st1) : ∀ (cx : Code), cCode P C cx = some x → ∀ (ι0 : Inj) (H0 : Heap) (W0 : World) (ι : Inj) (a : Act) (w : World), FR P C ι0 H0 W0 ι st a w →
    ∀ (b : Frame) (k : List Item) (cs : List Frame), ∃ e' a' w', (e' = e.to ∧ ∃ ι', FR P C ι0 H0 W0 ι' st1 a' w') ∧ Arrives P (lone (b.at a (.code cx :: .inLoop cx :: k)) cs w) b k cs e' a' w' := by
  induction h with
  | @out st st1 e hd hn =>
    intro cx hx ι0 H0 W0 ι a w h b k cs
    obtain ⟨e', a', w', ⟨rfl, ι', h'⟩, harr⟩ := hd cx hx ι0 H0 W0 ι a w h b (.inLoop cx :: k) cs
    refine ⟨_, a', w', ⟨rfl, ι', h'⟩, .pass (x := .inLoop cx) rfl (fun _ _ => .inl ?_) harr⟩
    cases e with
    | normal => exact absurd rfl hn
    | exit i => simp [IExit.to]
    | ret => simp [IExit.to]
  | @more st st1 st2 e hd hr ih =>
    intro cx hx ι0 H0 W0 ι a w h b k cs
    obtain ⟨e', a', w', ⟨rfl, ι', h'⟩, harr⟩ := hd cx hx ι0 H0 W0 ι a w h b (.inLoop cx :: k) cs
    obtain ⟨e2, a2, w2, h2, harr2⟩ := ih cx hx ι0 H0 W0 ι' a' w' h' b k cs
    exact ⟨e2, a2, w2, h2, .of_steps (Steps.trans harr (.one step_inLoop)) harr2⟩

theorem Det.loop {x : IC} {st st1 : St} {e : IExit} (h1 : Rounds P C x st e st1) : Det P C (.loop x) st e st1 := fun c hc ι0 H0 W0 ι a w h => by
  obtain ⟨cx, rfl, hx⟩ := cCode_loop hc
  intro b k cs
  obtain ⟨e', a', w', h2, harr⟩ := rounds_wp h1 cx hx ι0 H0 W0 ι a w h b k cs
  exact ⟨e', a', w', h2, .of_steps (.one step_loop) harr⟩

theorem Det.reg (hC : COk C) (hm : P.follows .mixedOrders = true) {ios : List IOp} {keep : List (Nat × Nat)} {dn : Option Nat} {st : St} {env' : Env} {bx' : List (List Value)} {H' : Heap} {vs' : List (Option Value)}
    (hrun : Run1 P st.v (dn.getD 0) ios [] st.bx st.h env' bx' H') (hf : fin env' keep st.v = some vs') : Det P C (.reg ios keep dn) st .normal ⟨vs', bx', H'⟩ := fun c hc ι0 H0 W0 ι a w h => by
  obtain ⟨id, ops, draw, rfl, hr⟩ := cCode_reg hc
  exact wp_mono (reg_wp hC hr hm h.nv hrun hf h) fun e' a' w' ⟨he, ι', h1, _⟩ => ⟨he, ι', h1⟩

theorem Det.regl (hC : COk C) (hm : P.follows .mixedOrders = true) {ios : List IOp} {keep : List (Nat × Nat)} {n : Nat} {late : List Nat} {st : St} {vs' : List (Option Value)}
    {Es : Nat → Env} {Bs : Nat → List (List Value)} {Hs : Nat → Heap} (T : Trace P st.v n late ios Es Bs Hs) (h0 : Es 0 = []) (h1 : Bs 0 = st.bx) (h2 : Hs 0 = st.h) (hf : fin (Es ios.length) keep st.v = some vs') :
    Det P C (.regl ios keep n late) st .normal ⟨vs', Bs ios.length, Hs ios.length⟩ := fun c hc ι0 H0 W0 ι a w h => by
  obtain ⟨id, ops, draw, rfl, hr⟩ := cCode_regl hc
  obtain ⟨_, _, h3⟩ := cReg_spec hr
  rcases h3 with ⟨_, h3⟩ | ⟨rfl, _⟩
  · simp at h3
  exact wp_mono (draw_reg hC hr hm h.nv T h0 hf (by rw [h1, h2]; exact h)) fun e' a' w' ⟨he, ι', h1, _⟩ => ⟨he, ι', h1⟩

theorem Det.regc (hC : COk C) (hm : P.follows .mixedOrders = true) {ios : List IOp} {keep : List (Nat × Nat)} {dn : Option Nat} {o : IOpd} {x y : IC} {st st1 : St} {e : IExit} {env' : Env} {bx' : List (List Value)} {H' : Heap} {vs' : List (Option Value)} {t : Bool}
    (hrun : Run1 P st.v (dn.getD 0) ios [] st.bx st.h env' bx' H') (hf : fin env' keep st.v = some vs') (ho : ev env' st.v o = some (.val (.bool t))) (h1 : Det P C (if t then x else y) ⟨vs', bx', H'⟩ e st1) :
    Det P C (.regc ios keep dn o x y) st e st1 := fun c hc ι0 H0 W0 ι a w h => by
  obtain ⟨id, ops, draw, o', cx, cy, rfl, hr, h2, hx, hy⟩ := cCode_regc hc
  refine wp_seq (wp_mono (reg_wp hC hr hm h.nv hrun hf h) fun e' a' w' he => ?_)
  obtain ⟨rfl, ι', h3, h4⟩ := he
  have hb := (ERel.val (cOpd_rel h4 h2 ho)).bool
  refine wp_cond hb ?_
  cases t with
  | true => exact h1 cx hx ι0 H0 W0 ι' a' w' h3
  | false => exact h1 cy hy ι0 H0 W0 ι' a' w' h3

end
end Go.Proofs.Ytpnbojehfngigaa.IM

/- The ideal machine: what is to be shown of the small code (W), and what follows for calls. -/
namespace Go.Proofs.Ytpnbojehfngigaa.IM
open Go
set_option linter.unusedVariables false
set_option linter.unusedSimpArgs false

section
variable {P : Program} {C : Cfg}

theorem wops_run {vs : List (Option Value)} : ∀ {ios : List IOp} {n : Nat} {env : Env} {bx : List (List Value)} {H : Heap} {Q : Env → List (List Value) → Heap → Prop}, WOps P vs ios n env bx H Q →
    ∃ env' bx' H', Run1 P vs n ios env bx H env' bx' H' ∧ Q env' bx' H'
  | [], n, env, bx, H, Q, h => ⟨env, bx, H, .nil, h⟩
  | o :: os, n, env, bx, H, Q, h => by
    unfold WOps at h
    split at h
    · exact h.elim
    · rename_i b hw
      cases b with
      | false =>
        obtain ⟨e, b, H', h1, h2⟩ := wops_run (h.1 rfl)
        exact ⟨e, b, H', .cons (.skip hw) (fun _ => ⟨Nat.le_refl _, fun _ _ => rfl⟩) h1, h2⟩
      | true =>
        have h := h.2 rfl
        split at h
        · exact h.elim
        · rename_i xs hxs
          split at h
          · rename_i f hf
            split at h
            · rename_i args ha
              obtain ⟨r, H1, hd, hg, hq⟩ := h
              obtain ⟨e, b, H', h1, h2⟩ := wops_run hq
              exact ⟨e, b, H', .cons (.call hw hxs ha hf hd) hg h1, h2⟩
            · exact h.elim
          · rename_i hf
            split at h
            · rename_i f cap args ha
              obtain ⟨r, H1, hd, hg, hq⟩ := h
              obtain ⟨e, b, H', h1, h2⟩ := wops_run hq
              refine ⟨e, b, H', .cons (.callv (cap := cap.toList) hw hxs (by simpa using ha) hf hd) hg h1, h2⟩
            · exact h.elim
          · split at h
            · rename_i hok
              split at h
              · rename_i x b1 H1 hx
                obtain ⟨hg, hq⟩ := h
                obtain ⟨e, b, H', h1, h2⟩ := wops_run hq
                exact ⟨e, b, H', .cons (.exec hw hxs hok hx) hg h1, h2⟩
              · exact h.elim
            · exact h.elim

/-- In order: the configuration, and the program's rule on orders. -/
structure Ok (P : Program) (C : Cfg) : Prop where
  c : COk C
  m : P.follows .mixedOrders = true

theorem W.mono {ic : IC} {st : St} {Q Q' : IExit → St → Prop} (h : W P C ic st Q) (hq : ∀ e s, Q e s → Q' e s) : W P C ic st Q' := by
  obtain ⟨e, s, h1, h2⟩ := h
  exact ⟨e, s, h1, hq e s h2⟩

theorem W_skip {st : St} {Q : IExit → St → Prop} (h : Q .normal st) : W P C .skip st Q := ⟨_, _, .skip, h⟩
theorem W_exit {i : Nat} {st : St} {Q : IExit → St → Prop} (h : Q (.exit i) st) : W P C (.exit i) st Q := ⟨_, _, .exit, h⟩
theorem W_ret {st : St} {Q : IExit → St → Prop} (h : Q .ret st) : W P C .ret st Q := ⟨_, _, .ret, h⟩

/-- What comes behind the first of two. -/
def Then (P : Program) (C : Cfg) (y : IC) (Q : IExit → St → Prop) : IExit → St → Prop
  | .normal, s => W P C y s Q
  | e, s => Q e s

theorem W_seq {x y : IC} {st : St} {Q : IExit → St → Prop} (h : W P C x st (Then P C y Q)) : W P C (.seq x y) st Q := by
  obtain ⟨e, s, h1, h2⟩ := h
  cases e with
  | normal => obtain ⟨e2, s2, h3, h4⟩ := h2; exact ⟨e2, s2, h1.seq h3, h4⟩
  | exit i => exact ⟨_, s, h1.seq_out (by simp), h2⟩
  | ret => exact ⟨_, s, h1.seq_out (by simp), h2⟩

theorem W_cond {o : IOpd} {x y : IC} {st : St} {Q : IExit → St → Prop} {t : Bool} (ho : ev [] st.v o = some (.val (.bool t))) (h : W P C (if t then x else y) st Q) : W P C (.cond o x y) st Q := by
  obtain ⟨e, s, h1, h2⟩ := h
  exact ⟨e, s, .cond ho h1, h2⟩

def Blk1 (i : Nat) (Q : IExit → St → Prop) (e : IExit) (s : St) : Prop := Q (if e = .exit i then .normal else e) s

theorem W_block {i : Nat} {x : IC} {st : St} {Q : IExit → St → Prop} (h : W P C x st (Blk1 i Q)) : W P C (.block i x) st Q := by
  obtain ⟨e, s, h1, h2⟩ := h
  exact ⟨_, s, h1.block, h2⟩

/-- A loop: what holds at each round's head, and a number that goes down. -/
theorem W_loop {x : IC} {st : St} {Q : IExit → St → Prop} (I : St → Prop) (μ : St → Nat) (h0 : I st) (hr : ∀ s, I s → W P C x s (fun e s' => match e with | .normal => I s' ∧ μ s' < μ s | e => Q e s')) : W P C (.loop x) st Q := by
  have key : ∀ n s, μ s = n → I s → ∃ e s', Rounds P C x s e s' ∧ Q e s' := by
    intro n
    induction n using Nat.strongRecOn with
    | _ n ih =>
      intro s hn hI
      obtain ⟨e, s1, h1, h2⟩ := hr s hI
      cases e with
      | normal =>
        obtain ⟨e2, s2, h3, h4⟩ := ih (μ s1) (by have := h2.2; omega) s1 rfl h2.1
        exact ⟨e2, s2, .more h1 h3, h4⟩
      | exit i => exact ⟨_, s1, .out h1 (by simp), h2⟩
      | ret => exact ⟨_, s1, .out h1 (by simp), h2⟩
  obtain ⟨e, s', h1, h2⟩ := key _ st rfl h0
  exact ⟨e, s', .loop h1, h2⟩

theorem W_reg (hC : Ok P C) {ios : List IOp} {keep : List (Nat × Nat)} {dn : Option Nat} {st : St} {Q : IExit → St → Prop}
    (h : WOps P st.v ios (dn.getD 0) [] st.bx st.h fun env bx H => match fin env keep st.v with | some vs => Q .normal ⟨vs, bx, H⟩ | none => False) : W P C (.reg ios keep dn) st Q := by
  obtain ⟨env, bx, H, h1, h2⟩ := wops_run h
  split at h2
  · rename_i vs hf
    exact ⟨_, _, .reg hC.c hC.m h1 hf, h2⟩
  · exact h2.elim

theorem W_regc (hC : Ok P C) {ios : List IOp} {keep : List (Nat × Nat)} {dn : Option Nat} {o : IOpd} {x y : IC} {st : St} {Q : IExit → St → Prop}
    (h : WOps P st.v ios (dn.getD 0) [] st.bx st.h fun env bx H => match fin env keep st.v, ev env st.v o with | some vs, some (.val (.bool t)) => W P C (if t then x else y) ⟨vs, bx, H⟩ Q | _, _ => False) : W P C (.regc ios keep dn o x y) st Q := by
  obtain ⟨env, bx, H, h1, h2⟩ := wops_run h
  split at h2
  · rename_i vs t hf ho
    obtain ⟨e, s, h3, h4⟩ := h2
    exact ⟨e, s, .regc hC.c hC.m h1 hf ho h3, h4⟩
  · exact h2.elim

def resV (st : St) : IRes → Option Value
  | .v k _ => match st.v[k]? with
    | some (some x) => some x
    | _ => none
  | .b t _ n g => match st.bx[t]? with
    | some cs => if cs.length = n then some (mkv g cs) else none
    | none => none

def resVs (st : St) : List IRes → Option (List Value)
  | [] => some []
  | r :: rs => match resV st r, resVs st rs with
    | some v, some vs => some (v :: vs)
    | _, _ => none

theorem run_asAddr (w : World) (a : Addr) : (asAddr (.pointer (some a))).run P w = .ok a w := rfl

theorem cRes_run {ι0 ι : Inj} {H0 : Heap} {W0 w : World} {st : St} {a : Act} (h : FR P C ι0 H0 W0 ι st a w) : ∀ {rs : List ResultVar} {irs : List IRes} {res : List Value}, cRes P C rs = some irs → resVs st irs = some res →
    ∃ ys : List Value, (rs.mapM fun
      | .tmp t => Pure.pure (a.tmps.getD t undef)
      | .cell p t => do loadVar t (← asAddr (a.tmps.getD p undef)) : Sem (List Value)).run P w = .ok ys w ∧ LRel (V1Rel ι) res ys
  | [], irs, res, hc, hr => by
    simp only [cRes, Option.some.injEq] at hc; subst hc
    simp only [resVs, Option.some.injEq] at hr; subst hr
    exact ⟨[], by simp, .nil⟩
  | .tmp t :: rs, irs, res, hc, hr => by
    simp only [cRes] at hc
    split at hc
    · rename_i k r hk hrs
      simp only [Option.some.injEq] at hc; subst hc
      simp only [resVs] at hr
      split at hr
      · rename_i v vs hv hvs
        simp only [Option.some.injEq] at hr; subst hr
        obtain ⟨ys, h1, h2⟩ := cRes_run h hrs hvs
        simp only [resV] at hv
        split at hv
        · rename_i x hx
          simp only [Option.some.injEq] at hv; subst hv
          obtain ⟨y, g1, g2⟩ := h.vars k t x (idxOf_get hk) hx
          refine ⟨y :: ys, ?_, .cons g2 h2⟩
          simp only [List.mapM_cons, Sem.run_bind, Sem.run_pure, Result.andThen_ok, h1]
          congr 2
          simp [Array.getD_eq_getD_getElem?, g1]
        · simp at hv
      · simp at hr
    · simp at hc
  | .cell d ty :: rs, irs, res, hc, hr => by
    simp only [cRes] at hc
    split at hc
    · rename_i i g n r hi hg hn hrs
      split at hc
      case isFalse => simp at hc
      rename_i hgn
      simp only [Bool.and_eq_true, Bool.or_eq_true, beq_iff_eq, decide_eq_true_eq] at hgn
      simp only [Option.some.injEq] at hc; subst hc
      simp only [resVs] at hr
      split at hr
      · rename_i v vs hv hvs
        simp only [Option.some.injEq] at hr; subst hr
        obtain ⟨ys, h1, h2⟩ := cRes_run h hrs hvs
        simp only [resV] at hv
        split at hv
        · rename_i cs hcs
          split at hv
          case isFalse => simp at hv
          rename_i hlen
          simp only [Option.some.injEq] at hv; subst hv
          have hne : cs ≠ [] := by rintro rfl; simp at hlen; omega
          obtain ⟨rr, Cs, e, g4, g5, g6, g7, g8⟩ := h.box i d cs (idxOf_get hi) hcs hne
          have hl3 : Cs.toList.length = n := by rw [← g6.len]; exact hlen
          have hcell : ∀ j v, Cs.toList[j]? = some v → w.cell? ((⟨rr, 0, none⟩ : Addr).add j) = some v := by
            intro j v hv
            rw [addr_add, cell_of g5]; simpa using hv
          refine ⟨mkv g Cs.toList :: ys, ?_, .cons (mkv_rel g6 (by rw [hlen]; exact hgn.2)) h2⟩
          have hget : a.tmps.getD d undef = .pointer (some ⟨rr, 0, none⟩) := by simp [Array.getD_eq_getD_getElem?, g4]
          have hload : (loadVar ty ⟨rr, 0, none⟩).run P w = .ok (mkv g Cs.toList) w := by
            unfold loadVar
            simp only [Sem.run_bind, run_isAgg P hg, Result.andThen_ok]
            cases g with
            | true =>
              have hl := run_loadCells_list (P := P) w ⟨rr, 0, none⟩ _ hcell
              rw [hl3] at hl
              simp only [if_true, Sem.run_bind, run_size? P hn, Result.andThen_ok, hl, Sem.run_pure]
              rfl
            | false =>
              have hn1 : n = 1 := by simpa using hgn.2
              subst hn1
              match hq : Cs.toList, hl3 with
              | [y], _ =>
                rw [hq] at hcell
                have := hcell 0 y rfl
                rw [addr_add] at this
                simp only [Bool.false_eq_true, if_false, run_load, Nat.add_zero] at this ⊢
                rw [this]; rfl
          simp only [List.mapM_cons, Sem.run_bind, hget, run_asAddr, Result.andThen_ok, hload, h1, Sem.run_pure]
        · simp at hv
      · simp at hr
    · simp at hc

theorem ICall.mono {f : Nat} {args : List Value} {H : Heap} {Q Q' : List Value → Heap → Prop} (h : ICall P f args H Q) (hq : ∀ r H', Q r H' → Q' r H') : ICall P f args H Q' := by
  obtain ⟨r, H', h1, h2⟩ := h
  exact ⟨r, H', h1, hq r H' h2⟩

/-- The state in which a function begins. -/
def St.init (C : Cfg) (args : List Value) (H : Heap) : St := ⟨args.map some ++ List.replicate (C.K.length - args.length) none, List.replicate C.B.length [], H⟩

/-- The configuration of a function. -/
def cfg (fn : Func) (K B : List Nat) : Cfg := ⟨List.range (fn.params.size + fn.nfree) ++ K, B, fn.ntmps⟩

theorem compile_spec {fn : Func} {K B : List Nat} {ifn : IFun} (h : compile P fn K B = some ifn) :
    COk (cfg fn K B) ∧ ifn.np = fn.params.size + fn.nfree ∧ ∃ c, fn.body = some c ∧ cCode P (cfg fn K B) c = some ifn.body ∧ cRes P (cfg fn K B) fn.results.toList = some ifn.res := by
  unfold compile at h
  simp only [] at h
  split at h
  · rename_i hc
    simp only [Bool.and_eq_true, List.all_eq_true, decide_eq_true_eq] at hc
    split at h
    · rename_i c hb
      split at h
      · rename_i b r h1 h2
        simp only [Option.some.injEq] at h; subst h
        exact ⟨⟨hc.1, hc.2⟩, rfl, c, hb, h1, h2⟩
      · simp at h
    · simp at h
  · simp at h

theorem results_run {ι0 ι : Inj} {H0 : Heap} {W0 w : World} {st : St} {a : Act} (h : FR P C ι0 H0 W0 ι st a w) {fn : Func} {irs : List IRes} {res : List Value} (hc : cRes P C fn.results.toList = some irs) (hr : resVs st irs = some res) :
    ∃ v, (results fn a.tmps).run P w = .ok v w ∧ VRel ι (resEV res) v := by
  obtain ⟨ys, h1, h2⟩ := cRes_run h hc hr
  have hl := h2.len
  refine ⟨if h : ys.length = 1 then ys[0] else .tuple ys.toArray, ?_, ?_⟩
  · unfold results
    rw [Array.mapM_eq_mapM_toList, Sem.run_bind, Sem.run_map]
    refine (congrArg (fun r => (Result.andThen (Result.andThen r fun a w' => Result.ok (List.toArray a) w') fun a w' => Sem.run P (Pure.pure (if h : a.size = 1 then a[0] else .tuple a)) w')) (show _ = Result.ok ys w from h1)).trans ?_
    simp only [Result.andThen_ok, Sem.run_pure]
    congr 1
  · match res, ys, h2, hl with
    | [], [], h2, _ => exact .tup h2
    | [x], [y], h2, _ => cases h2 with
      | cons h3 _ => exact .one h3
    | x :: x' :: xs, y :: y' :: ys, h2, hl => exact .tup h2

theorem icall {f : Nat} {fn : Func} {K B : List Nat} {ifn : IFun} (hf : P.funcs[f]? = some fn) (hn : (fn.name == "runtime.NumGoroutine") = false) (hm : P.follows .mixedOrders = true) (hc : compile P fn K B = some ifn)
    {args : List Value} (hl : args.length = ifn.np) {H : Heap} {Q : List Value → Heap → Prop}
    (h : W P (cfg fn K B) ifn.body (St.init (cfg fn K B) args H) fun e s => (e = .normal ∨ e = .ret) ∧ match resVs s ifn.res with | some res => Q res s.h | none => False) : ICall P f args H Q := by
  obtain ⟨hC, hnp, c, hb, hcc, hcr⟩ := compile_spec hc
  obtain ⟨e, s, hd, he, hq⟩ := h
  split at hq
  case h_2 => exact hq.elim
  rename_i res hres
  refine ⟨res, s.h, ⟨⟨fn, hf, by rw [hb]; rfl, hn⟩, fun ι w vargs hs hv => ?_⟩, hq⟩
  have hvl : vargs.length = ifn.np := by rw [← hv.len]; exact hl
  have hnt : ifn.np ≤ fn.ntmps := by
    rw [hnp]
    rcases Nat.eq_zero_or_pos (fn.params.size + fn.nfree) with h0 | h0
    · omega
    · have := hC.lt (fn.params.size + fn.nfree - 1) (List.mem_append_left _ (List.mem_append_left _ (List.mem_range.2 (by omega))))
      simp [cfg] at this; omega
  refine calls_of_wp hf hb ?_
  have hFR : FR P (cfg fn K B) ι H w ι (St.init (cfg fn K B) args H) { tmps := vargs.toArray ++ Array.replicate (fn.ntmps - vargs.toArray.size) undef, defers := [] } w := by
    refine ⟨rfl, ?_, hs, Ext.refl _ _ _ _ _ hs, fun k d x hk hx => ?_, ?_, by simp [St.init], fun t d cs hd hc hne => ?_, fun t t' d d' cs cs' r h1 h2 h3 h4 h5 => ?_⟩
    · simp [cfg]; omega
    · simp only [St.init] at hx
      by_cases hk2 : k < args.length
      · rw [List.getElem?_append_left (by simpa using hk2)] at hx
        simp only [List.getElem?_map] at hx
        cases hq : args[k]? with
        | none => rw [hq] at hx; simp at hx
        | some x' =>
          rw [hq] at hx; simp only [Option.map_some, Option.some.injEq] at hx; subst hx
          obtain ⟨y, g1, g2⟩ := hv.get k x' hq
          have hdk : d = k := by
            simp only [cfg] at hk
            rw [List.getElem?_append_left (by simp; omega), List.getElem?_range (by omega)] at hk
            simpa using hk.symm
          subst hdk
          refine ⟨y, ?_, g2⟩
          rw [Array.getElem?_append_left (by simpa using (List.getElem?_eq_some_iff.1 g1).1)]
          simpa using g1
      · rw [List.getElem?_append_right (by simp; omega)] at hx
        have := List.mem_of_getElem? hx
        simp at this
    · simp [St.init, cfg]; omega
    · simp only [St.init] at hc
      have := List.mem_of_getElem? hc
      simp at this
      exact absurd this.2 hne
    · simp only [St.init] at h3
      have := List.mem_of_getElem? h3
      simp at this
      exact absurd this.2 h5
  refine wp_mono (hd c hcc ι H w ι _ w hFR) fun e' a' w' he' => ?_
  obtain ⟨rfl, ι', h'⟩ := he'
  obtain ⟨v, g1, g2⟩ := results_run h' hcr hres
  rcases he with rfl | rfl
  · exact ⟨h'.defers, v, g1, v, ι', rfl, g2, h'.sim, h'.ext⟩
  · exact ⟨h'.defers, v, g1, v, ι', rfl, g2, h'.sim, h'.ext⟩

/-- The same, to be unfolded. -/
def WW (P : Program) (C : Cfg) : IC → St → (IExit → St → Prop) → Prop
  | .skip, st, Q => Q .normal st
  | .reg ios keep dn, st, Q => WOps P st.v ios (dn.getD 0) [] st.bx st.h fun env bx H => match fin env keep st.v with
    | some vs => Q .normal ⟨vs, bx, H⟩
    | none => False
  | .regl ios keep n late, st, Q => W P C (.regl ios keep n late) st Q
  | .regc ios keep dn o x y, st, Q => WOps P st.v ios (dn.getD 0) [] st.bx st.h fun env bx H => match fin env keep st.v, ev env st.v o with
    | some vs, some (.val (.bool t)) => (t = true → WW P C x ⟨vs, bx, H⟩ Q) ∧ (t = false → WW P C y ⟨vs, bx, H⟩ Q)
    | _, _ => False
  | .seq x y, st, Q => WW P C x st fun e s => match e with
    | .normal => WW P C y s Q
    | .exit i => Q (.exit i) s
    | .ret => Q .ret s
  | .cond o x y, st, Q => match ev [] st.v o with
    | some (.val (.bool t)) => (t = true → WW P C x st Q) ∧ (t = false → WW P C y st Q)
    | _ => False
  | .block i x, st, Q => WW P C x st fun e s => Q (if e = .exit i then .normal else e) s
  | .loop x, st, Q => W P C (.loop x) st Q
  | .exit i, st, Q => Q (.exit i) st
  | .ret, st, Q => Q .ret st

theorem WOps.mono {vs : List (Option Value)} : ∀ {ios : List IOp} {n : Nat} {env : Env} {bx : List (List Value)} {H : Heap} {Q Q' : Env → List (List Value) → Heap → Prop}, WOps P vs ios n env bx H Q → (∀ e b h, Q e b h → Q' e b h) → WOps P vs ios n env bx H Q'
  | [], n, env, bx, H, Q, Q', h, hq => hq _ _ _ h
  | o :: os, n, env, bx, H, Q, Q', h, hq => by
    unfold WOps at h ⊢
    cases hw : want env o.guard with
    | none => rw [hw] at h; exact h.elim
    | some b =>
      rw [hw] at h
      refine ⟨fun hb => (h.1 hb).mono hq, fun hb => ?_⟩
      have h := h.2 hb
      cases hxs : evs env vs o.args with
      | none => rw [hxs] at h; exact h.elim
      | some xs =>
        rw [hxs] at h
        simp only [] at h ⊢
        cases hk : o.k with
        | call f =>
          rw [hk] at h
          simp only [] at h ⊢
          cases ha : iexec.allV xs with
          | none => rw [ha] at h; exact h.elim
          | some args =>
            rw [ha] at h
            exact ICall.mono h fun r H' hr => ⟨hr.1, hr.2.mono hq⟩
        | callv =>
          rw [hk] at h
          simp only [] at h ⊢
          split at h
          · exact ICall.mono h fun r H' hr => ⟨hr.1, hr.2.mono hq⟩
          · exact h.elim
        | _ =>
          rw [hk] at h
          simp only [] at h ⊢
          split at h
          · rename_i hok
            rw [if_pos hok]
            split at h
            · exact ⟨h.1, h.2.mono hq⟩
            · exact h.elim
          · exact h.elim

theorem WW_W (hC : Ok P C) : ∀ {ic : IC} {st : St} {Q : IExit → St → Prop}, WW P C ic st Q → W P C ic st Q
  | .skip, st, Q, h => W_skip h
  | .reg ios keep dn, st, Q, h => W_reg hC h
  | .regl ios keep n late, st, Q, h => h
  | .regc ios keep dn o x y, st, Q, h => by
      unfold WW at h
      refine W_regc hC (WOps.mono h fun e b H hq => ?_)
      split at hq
      · rename_i vs t h1 h2
        cases t with
        | true => exact WW_W hC (hq.1 rfl)
        | false => exact WW_W hC (hq.2 rfl)
      · exact hq.elim
  | .seq x y, st, Q, h => W_seq ((WW_W hC (ic := x) h).mono fun e s hq => by
      cases e with
      | normal => exact WW_W hC hq
      | exit i => exact hq
      | ret => exact hq)
  | .cond o x y, st, Q, h => by
      unfold WW at h
      split at h
      · rename_i t ht
        refine W_cond ht ?_
        cases t with
        | true => exact WW_W hC (h.1 rfl)
        | false => exact WW_W hC (h.2 rfl)
      · exact h.elim
  | .block i x, st, Q, h => W_block (WW_W hC (ic := x) h)
  | .loop x, st, Q, h => h
  | .exit i, st, Q, h => W_exit h
  | .ret, st, Q, h => W_ret h

/-- A call, by its small code. -/
theorem call_of {f : Nat} {fn : Func} {K B : List Nat} {ifn : IFun} (hf : P.funcs[f]? = some fn) (hn : (fn.name == "runtime.NumGoroutine") = false) (hm : P.follows .mixedOrders = true) (hc : compile P fn K B = some ifn)
    {args : List Value} (hl : args.length = ifn.np) {H : Heap} {Q : List Value → Heap → Prop}
    (h : ∀ C, Ok P C → WW P C ifn.body ⟨args.map some ++ List.replicate K.length none, List.replicate B.length [], H⟩ fun e s => (e = .normal ∨ e = .ret) ∧ match resVs s ifn.res with | some res => Q res s.h | none => False) : ICall P f args H Q := by
  obtain ⟨hC, hnp, _⟩ := compile_spec hc
  refine icall hf hn hm hc hl ?_
  have e : (cfg fn K B).K.length - args.length = K.length := by simp [cfg, hl, hnp]
  have := h _ ⟨hC, hm⟩
  unfold St.init
  rw [e]
  exact WW_W ⟨hC, hm⟩ this

end
end Go.Proofs.Ytpnbojehfngigaa.IM

/- The ideal machine: words by which simp unfolds a small code, operation by operation. -/
namespace Go.Proofs.Ytpnbojehfngigaa.IM
open Go
set_option linter.unusedVariables false
set_option linter.unusedSimpArgs false

section
variable {P : Program} {C : Cfg} {vs : List (Option Value)} {os : List IOp} {n : Nat} {env : Env} {bx : List (List Value)} {H : Heap} {Q : Env → List (List Value) → Heap → Prop} {d : Nat} {a b c e : IOpd} {dst : Option Nat}

theorem Gent.refl (H : Heap) : Gent H H := ⟨Nat.le_refl _, fun _ _ => rfl⟩
@[simp] theorem gent_self : Gent H H = True := eq_true (Gent.refl H)
@[simp] theorem gent_new (x : Option Blk) : Gent H (H ++ [x]) = True := eq_true ⟨by simp, fun b hb => Heap.get_old H x hb⟩


/-- A block more. -/
def Heap.add (H : Heap) (B : Blk) : Heap := H ++ [some B]
@[simp] theorem add_length (H : Heap) (B : Blk) : (H.add B).length = H.length + 1 := by simp [Heap.add]
theorem gent_add' (H : Heap) (B : Blk) : Gent H (H.add B) := ⟨by simp, fun b hb => Heap.get_old H _ hb⟩
@[simp] theorem gent_add (H : Heap) (B : Blk) : Gent H (H.add B) = True := eq_true (gent_add' H B)
theorem get_add (H : Heap) (B : Blk) : (H.add B).get H.length = some B := Heap.get_new H B

attribute [simp] lk noadr fin bind1 resVs resV resEV clr clr1 mkv fillC reps

@[simp] theorem cl_int (k : IntKind) (n : Int) : cl (.int k n) = [.int k n] := rfl
@[simp] theorem cl_bool (b : Bool) : cl (.bool b) = [.bool b] := rfl
@[simp] theorem cl_str (b : ByteArray) : cl (.string b) = [.string b] := rfl
@[simp] theorem cl_slice (a : Option Addr) (n c : Nat) : cl (.slice a n c) = [.slice a n c] := rfl
@[simp] theorem cl_ptr (a : Option Addr) : cl (.pointer a) = [.pointer a] := rfl
@[simp] theorem cl_func (f : Fn) (a b : Array Value) : cl (.func f a b) = [.func f a b] := rfl
@[simp] theorem cl_agg (l : List Value) : cl (.agg l.toArray) = l := by simp [cl, Value.cells]
@[simp] theorem put_nil_nil (l : List Value) (o : Nat) : put l o [] = l := by simp [put]
@[simp] theorem put_zero (x : Value) (l : List Value) (v : Value) (vs : List Value) : put (x :: l) 0 (v :: vs) = v :: put l 0 vs := by simp [put]
@[simp] theorem put_succ (x : Value) (l : List Value) (o : Nat) (vs : List Value) : put (x :: l) (o + 1) vs = x :: put l o vs := by
  unfold put; simp only [List.take_succ_cons, List.cons_append]; congr 2; rw [show o + 1 + vs.length = (o + vs.length) + 1 by omega, List.drop_succ_cons]

/-- The operands of a call. -/
def evv (env : Env) (vs : List (Option Value)) : List IOpd → Option (List Value)
  | [] => some []
  | x :: xs => match ev env vs x, evv env vs xs with
    | some (.val v), some l => some (v :: l)
    | _, _ => none
theorem evv_evs : ∀ {as : List IOpd} {l : List Value}, evv env vs as = some l → evs env vs as = some (l.map .val)
  | [], l, h => by simp only [evv, Option.some.injEq] at h; subst h; rfl
  | x :: xs, l, h => by
    simp only [evv] at h
    split at h
    · rename_i v l' h1 h2
      simp only [Option.some.injEq] at h; subst h
      simp [evs, h1, evv_evs h2]
    · simp at h

theorem allV_val : ∀ l : List Value, iexec.allV (l.map .val) = some l
  | [] => rfl
  | v :: vs => by simp [iexec.allV, allV_val vs]

theorem noadr_val : ∀ l : List Value, noadr (l.map .val) = true
  | [] => rfl
  | v :: vs => by simp [noadr, noadr_val vs]

@[simp] theorem w_nil : WOps P vs [] n env bx H Q = Q env bx H := by rw [WOps]

theorem w_guard {k : IK} {args : List IOpd} {g : Nat} {t q : Bool} (h : lk env g = some (.val (.bool q))) : WOps P vs (⟨dst, k, args, some (g, t)⟩ :: os) n env bx H Q =
    if q = t then WOps P vs (⟨dst, k, args, none⟩ :: os) n env bx H Q else WOps P vs os (n - 1) (bind1 env dst none) bx H Q := by
  rw [WOps]
  simp only [want, h]
  by_cases hq : q = t
  · subst hq
    simp only [beq_self_eq_true, if_true]
    rw [WOps]; simp [want]
  · have : (q == t) = false := by simpa using hq
    simp [this, hq]

@[simp] theorem w_guard_tt {k : IK} {args : List IOpd} {g : Nat} (h : lk env g = some (.val (.bool true))) : WOps P vs (⟨dst, k, args, some (g, true)⟩ :: os) n env bx H Q = WOps P vs (⟨dst, k, args, none⟩ :: os) n env bx H Q := by
  rw [w_guard h]; simp
@[simp] theorem w_guard_ff {k : IK} {args : List IOpd} {g : Nat} (h : lk env g = some (.val (.bool false))) : WOps P vs (⟨dst, k, args, some (g, false)⟩ :: os) n env bx H Q = WOps P vs (⟨dst, k, args, none⟩ :: os) n env bx H Q := by
  rw [w_guard h]; simp
@[simp] theorem w_guard_tf {k : IK} {args : List IOpd} {g : Nat} (h : lk env g = some (.val (.bool true))) : WOps P vs (⟨dst, k, args, some (g, false)⟩ :: os) n env bx H Q = WOps P vs os (n - 1) (bind1 env dst none) bx H Q := by
  rw [w_guard h]; simp
@[simp] theorem w_guard_ft {k : IK} {args : List IOpd} {g : Nat} (h : lk env g = some (.val (.bool false))) : WOps P vs (⟨dst, k, args, some (g, true)⟩ :: os) n env bx H Q = WOps P vs os (n - 1) (bind1 env dst none) bx H Q := by
  rw [w_guard h]; simp

@[simp] theorem w_guard_skip {k : IK} {args : List IOpd} {g : Nat} {t : Bool} {ts : List Value} (h : lk env g = some (.tup ts)) : WOps P vs (⟨dst, k, args, some (g, t)⟩ :: os) n env bx H Q = WOps P vs os (n - 1) (bind1 env dst none) bx H Q := by
  rw [WOps]; simp [want, h]

/-- The head of an operation that is no call. -/
theorem w_exec {k : IK} {args : List IOpd} {xs : List EV} {x : Option EV} {bx' : List (List Value)} {H' : Heap} (h : evs env vs args = some xs) (ho : okArgs k xs = true) (hx : iexec k xs bx H = some (x, bx', H'))
    (h1 : ∀ f, k ≠ .call f) (h2 : k ≠ .callv) : WOps P vs (⟨dst, k, args, none⟩ :: os) n env bx H Q = ((n ≠ 0 → Gent H H') ∧ WOps P vs os (n - 1) (bind1 (clrk k env) dst x) bx' H' Q) := by
  rw [WOps]
  simp only [want, h]
  cases k <;> first
    | exact absurd rfl (h1 _)
    | exact absurd rfl h2
    | (simp only [ho, hx, if_true]; simp)

@[simp] theorem w_mv {x : Value} (h : ev env vs a = some (.val x)) : WOps P vs (⟨some d, .mv, [a], none⟩ :: os) n env bx H Q = WOps P vs os (n - 1) ((d, .val x) :: env) bx H Q := by
  rw [w_exec (xs := [.val x]) (by simp [evs, h]) rfl rfl (by simp) (by simp)]; simp [clrk]

@[simp] theorem w_mvt {x : List Value} (h : ev env vs a = some (.tup x)) : WOps P vs (⟨some d, .mv, [a], none⟩ :: os) n env bx H Q = WOps P vs os (n - 1) ((d, .tup x) :: env) bx H Q := by
  rw [w_exec (xs := [.tup x]) (by simp [evs, h]) rfl rfl (by simp) (by simp)]; simp [clrk]

@[simp] theorem w_pick {q : Bool} {x y : Value} (h0 : ev env vs c = some (.val (.bool q))) (h : ev env vs a = some (.val x)) (h' : ev env vs b = some (.val y)) : WOps P vs (⟨some d, .pick, [c, a, b], none⟩ :: os) n env bx H Q = WOps P vs os (n - 1) ((d, .val (if q then x else y)) :: env) bx H Q := by
  rw [w_exec (xs := [.val (.bool q), .val x, .val y]) (x := some (.val (if q then x else y))) (bx' := bx) (H' := H) (by simp [evs, h0, h, h']) rfl (by cases q <;> simp [iexec]) (by simp) (by simp)]; simp [clrk]

@[simp] theorem w_pick_t {x : Value} {ts : List Value} (h0 : ev env vs c = some (.val (.bool true))) (h : ev env vs a = some (.val x)) (h' : ev env vs b = some (.tup ts)) : WOps P vs (⟨some d, .pick, [c, a, b], none⟩ :: os) n env bx H Q = WOps P vs os (n - 1) ((d, .val x) :: env) bx H Q := by
  rw [w_exec (xs := [.val (.bool true), .val x, .tup ts]) (x := some (.val x)) (bx' := bx) (H' := H) (by simp [evs, h0, h, h']) rfl (by simp [iexec]) (by simp) (by simp)]; simp [clrk]

@[simp] theorem w_pick_f {x : Value} {ts : List Value} (h0 : ev env vs c = some (.val (.bool false))) (h : ev env vs a = some (.tup ts)) (h' : ev env vs b = some (.val x)) : WOps P vs (⟨some d, .pick, [c, a, b], none⟩ :: os) n env bx H Q = WOps P vs os (n - 1) ((d, .val x) :: env) bx H Q := by
  rw [w_exec (xs := [.val (.bool false), .tup ts, .val x]) (x := some (.val x)) (bx' := bx) (H' := H) (by simp [evs, h0, h, h']) rfl (by simp [iexec]) (by simp) (by simp)]; simp [clrk]

@[simp] theorem w_bin {op : BinOp} {t : ETy} {x y z : Value} (h : ev env vs a = some (.val x)) (h' : ev env vs b = some (.val y)) (hz : ibin op t x y = some z) : WOps P vs (⟨some d, .bin op t, [a, b], none⟩ :: os) n env bx H Q = WOps P vs os (n - 1) ((d, .val z) :: env) bx H Q := by
  rw [w_exec (xs := [.val x, .val y]) (x := some (.val z)) (bx' := bx) (H' := H) (by simp [evs, h, h']) rfl (by simp [iexec, hz]) (by simp) (by simp)]; simp [clrk]

@[simp] theorem w_not {q : Bool} (h : ev env vs a = some (.val (.bool q))) : WOps P vs (⟨some d, .not, [a], none⟩ :: os) n env bx H Q = WOps P vs os (n - 1) ((d, .val (.bool !q)) :: env) bx H Q := by
  rw [w_exec (xs := [.val (.bool q)]) (by simp [evs, h]) rfl rfl (by simp) (by simp)]; simp [clrk]

@[simp] theorem w_neg {k : IntKind} {m : Int} (h : ev env vs a = some (.val (.int k m))) : WOps P vs (⟨some d, .neg, [a], none⟩ :: os) n env bx H Q = WOps P vs os (n - 1) ((d, .val (.int k (k.wrap (0 - m)))) :: env) bx H Q := by
  rw [w_exec (xs := [.val (.int k m)]) (by simp [evs, h]) rfl rfl (by simp) (by simp)]; simp [clrk]

@[simp] theorem w_fa {off : Nat} {x y : Value} (h : ev env vs a = some (.val x)) (hy : addP x off = some y) : WOps P vs (⟨some d, .fa off, [a], none⟩ :: os) n env bx H Q = WOps P vs os (n - 1) ((d, .val y) :: env) bx H Q := by
  rw [w_exec (xs := [.val x]) (x := some (.val y)) (bx' := bx) (H' := H) (by simp [evs, h]) rfl (by simp [iexec, hy]) (by simp) (by simp)]; simp [clrk]

@[simp] theorem w_fab {off t o : Nat} {cs : List Value} (h : ev env vs a = some (.adr t o)) (hc : bx[t]? = some cs) (hl : o + off < cs.length) : WOps P vs (⟨some d, .fa off, [a], none⟩ :: os) n env bx H Q = WOps P vs os (n - 1) ((d, .adr t (o + off)) :: env) bx H Q := by
  rw [w_exec (xs := [.adr t o]) (x := some (.adr t (o + off))) (bx' := bx) (H' := H) (by simp [evs, h]) rfl (by simp [iexec, hc, hl]) (by simp) (by simp)]; simp [clrk]

@[simp] theorem w_ia {sz : Nat} {x y z : Value} (h : ev env vs a = some (.val x)) (h' : ev env vs b = some (.val y)) (hz : elemP x y sz = some z) : WOps P vs (⟨some d, .ia sz, [a, b], none⟩ :: os) n env bx H Q = WOps P vs os (n - 1) ((d, .val z) :: env) bx H Q := by
  rw [w_exec (xs := [.val x, .val y]) (x := some (.val z)) (bx' := bx) (H' := H) (by simp [evs, h, h']) rfl (by simp [iexec, hz]) (by simp) (by simp)]; simp [clrk]

@[simp] theorem w_ld {m : Nat} {g : Bool} {x : Value} {cs : List Value} (h : ev env vs a = some (.val x)) (hc : H.rd x m = some cs) : WOps P vs (⟨some d, .ld m g, [a], none⟩ :: os) n env bx H Q = WOps P vs os (n - 1) ((d, .val (mkv g cs)) :: env) bx H Q := by
  rw [w_exec (xs := [.val x]) (x := some (.val (mkv g cs))) (bx' := bx) (H' := H) (by simp [evs, h]) rfl (by simp [iexec, hc]) (by simp) (by simp)]; simp [clrk]

@[simp] theorem w_ldb {m t o : Nat} {g : Bool} {cs : List Value} (h : ev env vs a = some (.adr t o)) (hc : bx[t]? = some cs) (hl : o + m ≤ cs.length) : WOps P vs (⟨some d, .ld m g, [a], none⟩ :: os) n env bx H Q = WOps P vs os (n - 1) ((d, .val (mkv g ((cs.drop o).take m))) :: env) bx H Q := by
  rw [w_exec (xs := [.adr t o]) (x := some (.val (mkv g ((cs.drop o).take m)))) (bx' := bx) (H' := H) (by simp [evs, h]) rfl (by simp [iexec, hc, hl]) (by simp) (by simp)]; simp [clrk]

@[simp] theorem w_st {m : Nat} {x v : Value} {H' : Heap} (h : ev env vs a = some (.val x)) (h' : ev env vs b = some (.val v)) (hl : (cl v).length = m) (hw : H.wr x (cl v) = some H') : WOps P vs (⟨none, .st m, [a, b], none⟩ :: os) 0 env bx H Q = WOps P vs os 0 env bx H' Q := by
  rw [w_exec (xs := [.val x, .val v]) (x := none) (bx' := bx) (H' := H') (by simp [evs, h, h']) rfl (by simp [iexec, hl, hw]) (by simp) (by simp)]; simp [clrk]

@[simp] theorem w_stb {m t o : Nat} {v : Value} {cs : List Value} (h : ev env vs a = some (.adr t o)) (h' : ev env vs b = some (.val v)) (hc : bx[t]? = some cs) (hl : (cl v).length = m) (hle : o + m ≤ cs.length) : WOps P vs (⟨none, .st m, [a, b], none⟩ :: os) n env bx H Q = WOps P vs os (n - 1) env (bx.set t (put cs o (cl v))) H Q := by
  rw [w_exec (xs := [.adr t o, .val v]) (x := none) (bx' := bx.set t (put cs o (cl v))) (H' := H) (by simp [evs, h, h']) rfl (by simp [iexec, hc, hl, hle]) (by simp) (by simp)]; simp [clrk]

@[simp] theorem w_abx {t : Nat} {z : List Value} : WOps P vs (⟨some d, .abx t z, [], none⟩ :: os) n env bx H Q = WOps P vs os (n - 1) ((d, .adr t 0) :: clr env t) (bx.set t z) H Q := by
  rw [w_exec (xs := []) (by simp [evs]) rfl rfl (by simp) (by simp)]; simp [clrk]

@[simp] theorem w_bbx {t m : Nat} {v : Value} (h : ev env vs a = some (.val v)) (hl : (cl v).length = m) : WOps P vs (⟨some d, .bbx t m, [a], none⟩ :: os) n env bx H Q = WOps P vs os (n - 1) ((d, .adr t 0) :: clr env t) (bx.set t (cl v)) H Q := by
  rw [w_exec (xs := [.val v]) (x := some (.adr t 0)) (bx' := bx.set t (cl v)) (H' := H) (by simp [evs, h]) rfl (by simp [iexec, hl]) (by simp) (by simp)]; simp [clrk]

@[simp] theorem w_ah {z : List Value} : WOps P vs (⟨some d, .ah z, [], none⟩ :: os) n env bx H Q = WOps P vs os (n - 1) ((d, .val (.pointer (some ⟨H.length, 0, none⟩))) :: env) bx (H.add ⟨z, z.length, true⟩) Q := by
  simp only [Heap.add]
  rw [w_exec (xs := []) (by simp [evs]) rfl rfl (by simp) (by simp)]; simp [clrk]

@[simp] theorem w_bh {m : Nat} {v : Value} (h : ev env vs a = some (.val v)) (hl : (cl v).length = m) : WOps P vs (⟨some d, .bh m, [a], none⟩ :: os) n env bx H Q = WOps P vs os (n - 1) ((d, .val (.pointer (some ⟨H.length, 0, none⟩))) :: env) bx (H.add ⟨cl v, m, true⟩) Q := by
  simp only [Heap.add]
  rw [w_exec (xs := [.val v]) (x := some (.val (.pointer (some ⟨H.length, 0, none⟩)))) (bx' := bx) (H' := H ++ [some ⟨cl v, m, true⟩]) (by simp [evs, h]) rfl (by simp [iexec, hl]) (by simp) (by simp)]; simp [clrk]

@[simp] theorem w_bd {z cs : List Value} {ps : List (Nat × Nat)} {args : List IOpd} {l : List Value} (h : evv env vs args = some l) (hf : fillC z ps l = some cs) : WOps P vs (⟨some d, .bd z ps, args, none⟩ :: os) n env bx H Q = WOps P vs os (n - 1) ((d, .val (.agg cs.toArray)) :: env) bx H Q := by
  rw [w_exec (xs := l.map .val) (x := some (.val (.agg cs.toArray))) (bx' := bx) (H' := H) (evv_evs h) (by simp [okArgs, noadr_val]) (by simp [iexec, allV_val, hf]) (by simp) (by simp)]; simp [clrk]

@[simp] theorem w_bs {len sz : Nat} {z cs : List Value} {ps : List (Nat × Nat)} {args : List IOpd} {l : List Value} (h : evv env vs args = some l) (hle : len * sz ≤ 2 ^ 24) (hf : fillC (reps len z) ps l = some cs) :
    WOps P vs (⟨some d, .bs len sz z ps, args, none⟩ :: os) n env bx H Q = WOps P vs os (n - 1) ((d, .val (.slice (some ⟨H.length, 0, none⟩) len len)) :: env) bx (H.add ⟨cs, sz, true⟩) Q := by
  simp only [Heap.add]
  rw [w_exec (xs := l.map .val) (x := some (.val (.slice (some ⟨H.length, 0, none⟩) len len))) (bx' := bx) (H' := H ++ [some ⟨cs, sz, true⟩]) (evv_evs h) (by simp [okArgs, noadr_val]) (by simp [iexec, allV_val, hf, hle]) (by simp) (by simp)]; simp [clrk]

@[simp] theorem w_nc {p : Addr} (h : ev env vs a = some (.val (.pointer (some p)))) : WOps P vs (⟨some d, .nc, [a], none⟩ :: os) n env bx H Q = WOps P vs os (n - 1) ((d, .val (.pointer (some p))) :: env) bx H Q := by
  rw [w_exec (xs := [.val (.pointer (some p))]) (by simp [evs, h]) rfl rfl (by simp) (by simp)]; simp [clrk]

@[simp] theorem w_mk {z : List Value} {bytes : Nat} {k k' : IntKind} {l m : Int} (h : ev env vs a = some (.val (.int k l))) (h' : ev env vs b = some (.val (.int k' m))) (hc : 0 ≤ l ∧ l ≤ m ∧ m ≤ 2 ^ 38 ∧ bytes ≤ 256) :
    WOps P vs (⟨some d, .mk z bytes, [a, b], none⟩ :: os) n env bx H Q = WOps P vs os (n - 1) ((d, .val (.slice (some ⟨H.length, 0, none⟩) l.toNat m.toNat)) :: env) bx (H.add ⟨reps m.toNat z, z.length, true⟩) Q := by
  simp only [Heap.add]
  rw [w_exec (xs := [.val (.int k l), .val (.int k' m)]) (x := some (.val (.slice (some ⟨H.length, 0, none⟩) l.toNat m.toNat))) (bx' := bx) (H' := H ++ [some ⟨reps m.toNat z, z.length, true⟩]) (by simp [evs, h, h']) rfl (by simp only [iexec]; rw [if_pos hc]) (by simp) (by simp)]; simp [clrk]

@[simp] theorem w_sl00 {sz : Nat} {s r : Value} (h : ev env vs a = some (.val s)) (hz : H.szOk s sz = true) (hr : cutS s none none sz = some r) : WOps P vs (⟨some d, .sl false false sz, [a], none⟩ :: os) n env bx H Q = WOps P vs os (n - 1) ((d, .val r) :: env) bx H Q := by
  rw [w_exec (xs := [.val s]) (x := some (.val r)) (bx' := bx) (H' := H) (by simp [evs, h]) rfl (by simp [iexec, hz, hr, noadr]) (by simp) (by simp)]; simp [clrk]

@[simp] theorem w_sl10 {sz : Nat} {s r : Value} {k : IntKind} {l : Int} (h : ev env vs a = some (.val s)) (h' : ev env vs b = some (.val (.int k l))) (hz : H.szOk s sz = true) (hr : cutS s (some l) none sz = some r) : WOps P vs (⟨some d, .sl true false sz, [a, b], none⟩ :: os) n env bx H Q = WOps P vs os (n - 1) ((d, .val r) :: env) bx H Q := by
  rw [w_exec (xs := [.val s, .val (.int k l)]) (x := some (.val r)) (bx' := bx) (H' := H) (by simp [evs, h, h']) rfl (by simp [iexec, hz, hr, noadr]) (by simp) (by simp)]; simp [clrk]

@[simp] theorem w_sl01 {sz : Nat} {s r : Value} {k : IntKind} {l : Int} (h : ev env vs a = some (.val s)) (h' : ev env vs b = some (.val (.int k l))) (hz : H.szOk s sz = true) (hr : cutS s none (some l) sz = some r) : WOps P vs (⟨some d, .sl false true sz, [a, b], none⟩ :: os) n env bx H Q = WOps P vs os (n - 1) ((d, .val r) :: env) bx H Q := by
  rw [w_exec (xs := [.val s, .val (.int k l)]) (x := some (.val r)) (bx' := bx) (H' := H) (by simp [evs, h, h']) rfl (by simp [iexec, hz, hr, noadr]) (by simp) (by simp)]; simp [clrk]

@[simp] theorem w_sl11 {sz : Nat} {s r : Value} {k k' : IntKind} {l m : Int} (h : ev env vs a = some (.val s)) (h' : ev env vs b = some (.val (.int k l))) (h'' : ev env vs c = some (.val (.int k' m))) (hz : H.szOk s sz = true) (hr : cutS s (some l) (some m) sz = some r) : WOps P vs (⟨some d, .sl true true sz, [a, b, c], none⟩ :: os) n env bx H Q = WOps P vs os (n - 1) ((d, .val r) :: env) bx H Q := by
  rw [w_exec (xs := [.val s, .val (.int k l), .val (.int k' m)]) (x := some (.val r)) (bx' := bx) (H' := H) (by simp [evs, h, h', h'']) rfl (by simp [iexec, hz, hr, noadr]) (by simp) (by simp)]; simp [clrk]

@[simp] theorem w_ex {i : Nat} {ts : List Value} {v : Value} (h : ev env vs a = some (.tup ts)) (hv : ts[i]? = some v) : WOps P vs (⟨some d, .ex i, [a], none⟩ :: os) n env bx H Q = WOps P vs os (n - 1) ((d, .val v) :: env) bx H Q := by
  rw [w_exec (xs := [.tup ts]) (x := some (.val v)) (bx' := bx) (H' := H) (by simp [evs, h]) rfl (by simp [iexec, hv]) (by simp) (by simp)]; simp [clrk]

@[simp] theorem w_len {s r : Value} (h : ev env vs a = some (.val s)) (hr : lenV s = some r) : WOps P vs (⟨some d, .len, [a], none⟩ :: os) n env bx H Q = WOps P vs os (n - 1) ((d, .val r) :: env) bx H Q := by
  rw [w_exec (xs := [.val s]) (x := some (.val r)) (bx' := bx) (H' := H) (by simp [evs, h]) rfl (by simp [iexec, hr]) (by simp) (by simp)]; simp [clrk]

@[simp] theorem w_cap (h : ev env vs a = some (.val (.slice none 0 0))) : WOps P vs (⟨some d, .cap, [a], none⟩ :: os) n env bx H Q = WOps P vs os (n - 1) ((d, .val (.int .i64 0)) :: env) bx H Q := by
  rw [w_exec (xs := [.val (.slice none 0 0)]) (by simp [evs, h]) rfl rfl (by simp) (by simp)]; simp [clrk]

@[simp] theorem w_min {x y : Int} (h : ev env vs a = some (.val (.int .i64 x))) (h' : ev env vs b = some (.val (.int .i64 y))) : WOps P vs (⟨some d, .min, [a, b], none⟩ :: os) n env bx H Q = WOps P vs os (n - 1) ((d, .val (.int .i64 (if y < x then y else x))) :: env) bx H Q := by
  rw [w_exec (xs := [.val (.int .i64 x), .val (.int .i64 y)]) (by simp [evs, h, h']) rfl rfl (by simp) (by simp)]; simp [clrk]

@[simp] theorem w_max {x y : Int} (h : ev env vs a = some (.val (.int .i64 x))) (h' : ev env vs b = some (.val (.int .i64 y))) : WOps P vs (⟨some d, .max, [a, b], none⟩ :: os) n env bx H Q = WOps P vs os (n - 1) ((d, .val (.int .i64 (if x < y then y else x))) :: env) bx H Q := by
  rw [w_exec (xs := [.val (.int .i64 x), .val (.int .i64 y)]) (by simp [evs, h, h']) rfl rfl (by simp) (by simp)]; simp [clrk]

@[simp] theorem w_app {sz bytes : Nat} {s x r : Value} {new : List Value} {H' : Heap} (h : ev env vs a = some (.val s)) (h' : ev env vs b = some (.val x)) (hn : H.cellsOf x sz = some new) (hr : H.app s sz bytes (lenS x) new = some (r, H')) :
    WOps P vs (⟨some d, .app sz bytes, [a, b], none⟩ :: os) n env bx H Q = ((n ≠ 0 → Gent H H') ∧ WOps P vs os (n - 1) ((d, .val r) :: env) bx H' Q) := by
  rw [w_exec (xs := [.val s, .val x]) (x := some (.val r)) (bx' := bx) (H' := H') (by simp [evs, h, h']) rfl (by simp [iexec, hn, hr]) (by simp) (by simp)]; simp [clrk]

@[simp] theorem w_appz {z : List Value} {bytes : Nat} {m : Int} (h : ev env vs a = some (.val (.slice none 0 0))) (h' : ev env vs b = some (.val (.int .i64 m))) (hc : 0 < m ∧ m ≤ 2 ^ 38 ∧ bytes ≤ 256) :
    WOps P vs (⟨some d, .appz z bytes, [a, b], none⟩ :: os) n env bx H Q = WOps P vs os (n - 1) ((d, .val (.slice (some ⟨H.length, 0, none⟩) m.toNat m.toNat)) :: env) bx (H.add ⟨reps m.toNat z, z.length, true⟩) Q := by
  simp only [Heap.add]
  rw [w_exec (xs := [.val (.slice none 0 0), .val (.int .i64 m)]) (x := some (.val (.slice (some ⟨H.length, 0, none⟩) m.toNat m.toNat))) (bx' := bx) (H' := H ++ [some ⟨reps m.toNat z, z.length, true⟩]) (by simp [evs, h, h']) rfl (by simp only [iexec]; rw [if_pos hc]) (by simp) (by simp)]; simp [clrk]

@[simp] theorem w_cvi {k k' : IntKind} {m : Int} (h : ev env vs a = some (.val (.int k' m))) : WOps P vs (⟨some d, .cvi k, [a], none⟩ :: os) n env bx H Q = WOps P vs os (n - 1) ((d, .val (.int k (k.wrap m))) :: env) bx H Q := by
  rw [w_exec (xs := [.val (.int k' m)]) (by simp [evs, h]) rfl rfl (by simp) (by simp)]; simp [clrk]

@[simp] theorem w_cvs {s : ByteArray} (h : ev env vs a = some (.val (.string s))) : WOps P vs (⟨some d, .cvs, [a], none⟩ :: os) n env bx H Q = WOps P vs os (n - 1) ((d, .val (.slice (some ⟨H.length, 0, none⟩) s.size s.size)) :: env) bx (H.add ⟨s.data.toList.map fun b => .int .u8 b.toNat, 1, false⟩) Q := by
  simp only [Heap.add]
  rw [w_exec (xs := [.val (.string s)]) (by simp [evs, h]) rfl rfl (by simp) (by simp)]; simp [clrk]

@[simp] theorem w_mf {f : Nat} {args : List IOpd} {l : List Value} (h : evv env vs args = some l) (hp : l.all isPtr = true) : WOps P vs (⟨some d, .mf f, args, none⟩ :: os) n env bx H Q = WOps P vs os (n - 1) ((d, .val (.func (.func f) #[] l.toArray)) :: env) bx H Q := by
  rw [w_exec (xs := l.map .val) (x := some (.val (.func (.func f) #[] l.toArray))) (bx' := bx) (H' := H) (evv_evs h) (by simp [okArgs, noadr_val]) (by simp only [iexec, allV_val]; rw [if_pos hp]) (by simp) (by simp)]; simp [clrk]

@[simp] theorem w_call {f : Nat} {args : List IOpd} {l : List Value} (h : evv env vs args = some l) : WOps P vs (⟨dst, .call f, args, none⟩ :: os) n env bx H Q = ICall P f l H fun r H' => (n ≠ 0 → Gent H H') ∧ WOps P vs os (n - 1) (bind1 env dst (some (resEV r))) bx H' Q := by
  rw [WOps]; simp [want, evv_evs h, allV_val]

@[simp] theorem w_callv {f : Nat} {cap l : List Value} {args : List IOpd} (h : evv env vs args = some (.func (.func f) #[] cap.toArray :: l)) : WOps P vs (⟨dst, .callv, args, none⟩ :: os) n env bx H Q = ICall P f (l ++ cap) H fun r H' => (n ≠ 0 → Gent H H') ∧ WOps P vs os (n - 1) (bind1 env dst (some (resEV r))) bx H' Q := by
  have := evv_evs h
  rw [WOps]; simp only [want, this, allV_val]; simp

attribute [simp] ev evv WW

section
variable (t : ETy) (k k' : IntKind) (x y : Int)
@[simp] theorem ibin_add : ibin .add t (.int k x) (.int k y) = some (.int k (k.wrap (x + y))) := if_pos rfl
@[simp] theorem ibin_sub : ibin .sub t (.int k x) (.int k y) = some (.int k (k.wrap (x - y))) := if_pos rfl
@[simp] theorem ibin_mul : ibin .mul t (.int k x) (.int k y) = some (.int k (k.wrap (x * y))) := if_pos rfl
@[simp] theorem ibin_quo (h : y ≠ 0) : ibin .quo t (.int k x) (.int k y) = some (.int k (k.wrap (x.tdiv y))) := (if_pos rfl).trans (if_neg h)
@[simp] theorem ibin_rem (h : y ≠ 0) : ibin .rem t (.int k x) (.int k y) = some (.int k (x.tmod y)) := (if_pos rfl).trans (if_neg h)
@[simp] theorem ibin_and : ibin .and t (.int k x) (.int k y) = some (.int k (k.wrap (BitVec.ofInt k.bits x &&& BitVec.ofInt k.bits y).toNat)) := if_pos rfl
@[simp] theorem ibin_or : ibin .or t (.int k x) (.int k y) = some (.int k (k.wrap (BitVec.ofInt k.bits x ||| BitVec.ofInt k.bits y).toNat)) := if_pos rfl
@[simp] theorem ibin_xor : ibin .xor t (.int k x) (.int k y) = some (.int k (k.wrap (BitVec.ofInt k.bits x ^^^ BitVec.ofInt k.bits y).toNat)) := if_pos rfl
@[simp] theorem ibin_eql : ibin .eql t (.int k x) (.int k y) = some (.bool (decide (x = y))) := if_pos rfl
@[simp] theorem ibin_neq : ibin .neq t (.int k x) (.int k y) = some (.bool (!decide (x = y))) := if_pos rfl
@[simp] theorem ibin_lss : ibin .lss t (.int k x) (.int k y) = some (.bool (x < y)) := if_pos rfl
@[simp] theorem ibin_leq : ibin .leq t (.int k x) (.int k y) = some (.bool (x ≤ y)) := if_pos rfl
@[simp] theorem ibin_gtr : ibin .gtr t (.int k x) (.int k y) = some (.bool (x > y)) := if_pos rfl
@[simp] theorem ibin_geq : ibin .geq t (.int k x) (.int k y) = some (.bool (x ≥ y)) := if_pos rfl
@[simp] theorem ibin_shr (h : ¬ y < 0) : ibin .shr t (.int k x) (.int k' y) = some (.int k (x.fdiv (2 ^ (Min.min y.toNat k.bits)))) := by
  by_cases hk : k = k'
  · exact (if_pos hk).trans (if_neg h)
  · exact (if_neg hk).trans (if_neg h)
@[simp] theorem ibin_shl (h : ¬ y < 0) : ibin .shl t (.int k x) (.int k' y) = some (.int k (k.wrap (x * 2 ^ (Min.min y.toNat k.bits)))) := by
  by_cases hk : k = k'
  · exact (if_pos hk).trans (if_neg h)
  · exact (if_neg hk).trans (if_neg h)
@[simp] theorem ibin_beq (a b : Bool) : ibin .eql .bool (.bool a) (.bool b) = some (.bool (a == b)) := rfl
@[simp] theorem ibin_bne (a b : Bool) : ibin .neq .bool (.bool a) (.bool b) = some (.bool (a != b)) := rfl
@[simp] theorem ibin_nil0 : ibin .eql .sl (.slice none 0 0) (.slice none 0 0) = some (.bool true) := rfl
@[simp] theorem ibin_nil1 (a : Addr) (n c : Nat) : ibin .eql .sl (.slice (some a) n c) (.slice none 0 0) = some (.bool false) := rfl
@[simp] theorem ibin_nnil0 : ibin .neq .sl (.slice none 0 0) (.slice none 0 0) = some (.bool false) := rfl
@[simp] theorem ibin_nnil1 (a : Addr) (n c : Nat) : ibin .neq .sl (.slice (some a) n c) (.slice none 0 0) = some (.bool true) := rfl
end

end
end Go.Proofs.Ytpnbojehfngigaa.IM

/- The ideal machine: rules by which a walk goes from part to part of a small code. -/
namespace Go.Proofs.Ytpnbojehfngigaa.IM
open Go
set_option linter.unusedVariables false
set_option linter.unusedSimpArgs false

section
variable {P : Program} {C : Cfg}

@[simp] theorem then_normal (y : IC) (Q : IExit → St → Prop) (s : St) : Then P C y Q .normal s = W P C y s Q := rfl
@[simp] theorem then_exit (y : IC) (Q : IExit → St → Prop) (i : Nat) (s : St) : Then P C y Q (.exit i) s = Q (.exit i) s := rfl
@[simp] theorem then_ret (y : IC) (Q : IExit → St → Prop) (s : St) : Then P C y Q .ret s = Q .ret s := rfl
@[simp] theorem blk_normal (i : Nat) (Q : IExit → St → Prop) (s : St) : Blk1 i Q .normal s = Q .normal s := rfl
@[simp] theorem blk_ret (i : Nat) (Q : IExit → St → Prop) (s : St) : Blk1 i Q .ret s = Q .ret s := rfl
@[simp] theorem blk_exit (i j : Nat) (Q : IExit → St → Prop) (s : St) : Blk1 i Q (.exit j) s = if j = i then Q .normal s else Q (.exit j) s := by
  unfold Blk1
  by_cases h : j = i <;> simp [h]

/-- What comes behind a region. -/
def Aft (keep : List (Nat × Nat)) (v0 : List (Option Value)) (Q : IExit → St → Prop) (env : Env) (bx : List (List Value)) (H : Heap) : Prop :=
  match fin env keep v0 with
  | some vs => Q .normal ⟨vs, bx, H⟩
  | none => False

theorem Aft.is {keep : List (Nat × Nat)} {v0 vs : List (Option Value)} {Q : IExit → St → Prop} {env : Env} {bx : List (List Value)} {H : Heap} (h : fin env keep v0 = some vs) : Aft keep v0 Q env bx H = Q .normal ⟨vs, bx, H⟩ := by
  unfold Aft; rw [h]

theorem V_reg (hC : Ok P C) {ios : List IOp} {keep : List (Nat × Nat)} {dn : Option Nat} {st : St} {Q : IExit → St → Prop} (h : WOps P st.v ios (dn.getD 0) [] st.bx st.h (Aft keep st.v Q)) : W P C (.reg ios keep dn) st Q :=
  W_reg hC (WOps.mono h fun e b H h => h)

/-- What comes behind a region that a branch follows. -/
def Brn (P : Program) (C : Cfg) (keep : List (Nat × Nat)) (o : IOpd) (x y : IC) (v0 : List (Option Value)) (Q : IExit → St → Prop) (env : Env) (bx : List (List Value)) (H : Heap) : Prop :=
  match fin env keep v0, ev env v0 o with
  | some vs, some (.val (.bool t)) => (t = true → W P C x ⟨vs, bx, H⟩ Q) ∧ (t = false → W P C y ⟨vs, bx, H⟩ Q)
  | _, _ => False

theorem V_regc (hC : Ok P C) {ios : List IOp} {keep : List (Nat × Nat)} {dn : Option Nat} {o : IOpd} {x y : IC} {st : St} {Q : IExit → St → Prop} (h : WOps P st.v ios (dn.getD 0) [] st.bx st.h (Brn P C keep o x y st.v Q)) : W P C (.regc ios keep dn o x y) st Q :=
  W_regc hC (WOps.mono h fun e b H h => by
    unfold Brn at h
    split at h
    · rename_i vs t h1 h2
      (try rw [h1, h2])
      cases t with
      | true => exact h.1 rfl
      | false => exact h.2 rfl
    · exact h.elim)

theorem V_cond {o : IOpd} {x y : IC} {st : St} {Q : IExit → St → Prop} {t : Bool} (ho : ev [] st.v o = some (.val (.bool t))) (h1 : t = true → W P C x st Q) (h2 : t = false → W P C y st Q) : W P C (.cond o x y) st Q :=
  W_cond ho (by cases t with
    | true => exact h1 rfl
    | false => exact h2 rfl)

/-- What a function's end is to tell. -/
def Fin (irs : List IRes) (Q : List Value → Heap → Prop) (e : IExit) (s : St) : Prop := (e = .normal ∨ e = .ret) ∧ match resVs s irs with
  | some res => Q res s.h
  | none => False

@[simp] theorem fin_normal {irs : List IRes} {Q : List Value → Heap → Prop} {s : St} {res : List Value} (h : resVs s irs = some res) : Fin irs Q .normal s = Q res s.h := by simp [Fin, h]
@[simp] theorem fin_ret {irs : List IRes} {Q : List Value → Heap → Prop} {s : St} {res : List Value} (h : resVs s irs = some res) : Fin irs Q .ret s = Q res s.h := by simp [Fin, h]

theorem call_go {f : Nat} {fn : Func} {K B : List Nat} {ifn : IFun} (hf : P.funcs[f]? = some fn) (hn : (fn.name == "runtime.NumGoroutine") = false) (hm : P.follows .mixedOrders = true) (hc : compile P fn K B = some ifn)
    {args : List Value} (hl : args.length = ifn.np) {H : Heap} {Q : List Value → Heap → Prop} (h : ∀ C, Ok P C → W P C ifn.body ⟨args.map some ++ List.replicate K.length none, List.replicate B.length [], H⟩ (Fin ifn.res Q)) : ICall P f args H Q := by
  obtain ⟨hC, hnp, _⟩ := compile_spec hc
  refine icall hf hn hm hc hl ?_
  have e : (cfg fn K B).K.length - args.length = K.length := by simp [cfg, hl, hnp]
  have := h _ ⟨hC, hm⟩
  unfold St.init
  rw [e]
  exact this.mono fun e s h => h

variable {vs : List (Option Value)} {os : List IOp} {n : Nat} {env : Env} {bx : List (List Value)} {H : Heap} {Q : Env → List (List Value) → Heap → Prop} {dst : Option Nat}

/-- A guard that is open: both ways. -/
theorem w_split {k : IK} {args : List IOpd} {g : Nat} {t q : Bool} (h : lk env g = some (.val (.bool q))) (h1 : q = t → WOps P vs (⟨dst, k, args, none⟩ :: os) n env bx H Q) (h2 : q = (!t) → WOps P vs os (n - 1) (bind1 env dst none) bx H Q) :
    WOps P vs (⟨dst, k, args, some (g, t)⟩ :: os) n env bx H Q := by
  rw [w_guard h]
  split
  · exact h1 ‹_›
  · exact h2 (by cases q <;> cases t <;> simp_all)


/-! ### operations, told by functions (simp finds one value at a time) -/

def intOf : Value → Option Int
  | .int _ n => some n
  | _ => none
@[simp] theorem intOf_int (k : IntKind) (n : Int) : intOf (.int k n) = some n := rfl

def negV : Value → Option Value
  | .int k n => some (.int k (k.wrap (0 - n)))
  | _ => none
@[simp] theorem negV_int (k : IntKind) (n : Int) : negV (.int k n) = some (.int k (k.wrap (0 - n))) := rfl

def faB (off : Nat) (bx : List (List Value)) : EV → Option EV
  | .adr t o => match bx[t]? with
    | some cs => if o + off < cs.length then some (.adr t (o + off)) else none
    | none => none
  | _ => none
def ldB (m : Nat) (bx : List (List Value)) : EV → Option (List Value)
  | .adr t o => match bx[t]? with
    | some cs => if o + m ≤ cs.length then some ((cs.drop o).take m) else none
    | none => none
  | _ => none
def stB (us : List Value) (bx : List (List Value)) : EV → Option (List (List Value))
  | .adr t o => match bx[t]? with
    | some cs => if o + us.length ≤ cs.length then some (bx.set t (put cs o us)) else none
    | none => none
  | _ => none
attribute [simp] faB ldB stB

variable {d : Nat} {a b c : IOpd}

@[simp] theorem w_fab' {off : Nat} {x y : EV} (h : ev env vs a = some x) (hy : faB off bx x = some y) : WOps P vs (⟨some d, .fa off, [a], none⟩ :: os) n env bx H Q = WOps P vs os (n - 1) ((d, y) :: env) bx H Q := by
  cases x with
  | adr t o =>
    simp only [faB] at hy
    split at hy
    · rename_i cs hc
      split at hy
      · rename_i hl; simp only [Option.some.injEq] at hy; subst hy; exact w_fab h hc hl
      · simp at hy
    · simp at hy
  | _ => simp at hy

@[simp] theorem w_ldb' {m : Nat} {g : Bool} {x : EV} {cs : List Value} (h : ev env vs a = some x) (hy : ldB m bx x = some cs) : WOps P vs (⟨some d, .ld m g, [a], none⟩ :: os) n env bx H Q = WOps P vs os (n - 1) ((d, .val (mkv g cs)) :: env) bx H Q := by
  cases x with
  | adr t o =>
    simp only [ldB] at hy
    split at hy
    · rename_i cs hc
      split at hy
      · rename_i hl; simp only [Option.some.injEq] at hy; subst hy; exact w_ldb h hc hl
      · simp at hy
    · simp at hy
  | _ => simp at hy

@[simp] theorem w_stb' {m : Nat} {x : EV} {v : Value} {bx' : List (List Value)} (h : ev env vs a = some x) (h' : ev env vs b = some (.val v)) (hy : stB (cl v) bx x = some bx') (hl : (cl v).length = m) : WOps P vs (⟨none, .st m, [a, b], none⟩ :: os) n env bx H Q = WOps P vs os (n - 1) env bx' H Q := by
  cases x with
  | adr t o =>
    simp only [stB] at hy
    split at hy
    · rename_i cs hc
      split at hy
      · rename_i hle; simp only [Option.some.injEq] at hy; subst hy; exact w_stb h h' hc hl (by rw [← hl]; exact hle)
      · simp at hy
    · simp at hy
  | _ => simp at hy

@[simp] theorem w_neg' {x z : Value} (h : ev env vs a = some (.val x)) (hz : negV x = some z) : WOps P vs (⟨some d, .neg, [a], none⟩ :: os) n env bx H Q = WOps P vs os (n - 1) ((d, .val z) :: env) bx H Q := by
  cases x with
  | int k m => simp only [negV, Option.some.injEq] at hz; subst hz; exact w_neg h
  | _ => simp [negV] at hz

@[simp] theorem w_cvi' {k : IntKind} {x : Value} {m : Int} (h : ev env vs a = some (.val x)) (hz : intOf x = some m) : WOps P vs (⟨some d, .cvi k, [a], none⟩ :: os) n env bx H Q = WOps P vs os (n - 1) ((d, .val (.int k (k.wrap m))) :: env) bx H Q := by
  cases x <;> simp [intOf] at hz
  subst hz; exact w_cvi h

@[simp] theorem w_mk' {z : List Value} {bytes : Nat} {x y : Value} {l m : Int} (h : ev env vs a = some (.val x)) (h' : ev env vs b = some (.val y)) (hx : intOf x = some l) (hy : intOf y = some m) (hc : 0 ≤ l ∧ l ≤ m ∧ m ≤ 2 ^ 38 ∧ bytes ≤ 256) :
    WOps P vs (⟨some d, .mk z bytes, [a, b], none⟩ :: os) n env bx H Q = WOps P vs os (n - 1) ((d, .val (.slice (some ⟨H.length, 0, none⟩) l.toNat m.toNat)) :: env) bx (H.add ⟨reps m.toNat z, z.length, true⟩) Q := by
  simp only [Heap.add]
  cases x <;> simp [intOf] at hx
  cases y <;> simp [intOf] at hy
  subst hx hy; exact w_mk h h' hc

@[simp] theorem w_sl10' {sz : Nat} {s r y : Value} {l : Int} (h : ev env vs a = some (.val s)) (h' : ev env vs b = some (.val y)) (hy : intOf y = some l) (hz : H.szOk s sz = true) (hr : cutS s (some l) none sz = some r) : WOps P vs (⟨some d, .sl true false sz, [a, b], none⟩ :: os) n env bx H Q = WOps P vs os (n - 1) ((d, .val r) :: env) bx H Q := by
  cases y <;> simp [intOf] at hy
  subst hy; exact w_sl10 h h' hz hr

@[simp] theorem w_sl01' {sz : Nat} {s r y : Value} {l : Int} (h : ev env vs a = some (.val s)) (h' : ev env vs b = some (.val y)) (hy : intOf y = some l) (hz : H.szOk s sz = true) (hr : cutS s none (some l) sz = some r) : WOps P vs (⟨some d, .sl false true sz, [a, b], none⟩ :: os) n env bx H Q = WOps P vs os (n - 1) ((d, .val r) :: env) bx H Q := by
  cases y <;> simp [intOf] at hy
  subst hy; exact w_sl01 h h' hz hr

@[simp] theorem w_sl11' {sz : Nat} {s r y z : Value} {l m : Int} (h : ev env vs a = some (.val s)) (h' : ev env vs b = some (.val y)) (h'' : ev env vs c = some (.val z)) (hy : intOf y = some l) (hw : intOf z = some m) (hz : H.szOk s sz = true) (hr : cutS s (some l) (some m) sz = some r) : WOps P vs (⟨some d, .sl true true sz, [a, b, c], none⟩ :: os) n env bx H Q = WOps P vs os (n - 1) ((d, .val r) :: env) bx H Q := by
  cases y <;> simp [intOf] at hy
  cases z <;> simp [intOf] at hw
  subst hy hw; exact w_sl11 h h' h'' hz hr

def cvF : List Value → Option Nat
  | .func (.func f) ⟨[]⟩ _ :: _ => some f
  | _ => none
def cvA : List Value → Option (List Value)
  | .func _ _ cap :: l => some (l ++ cap.toList)
  | _ => none
attribute [simp] cvF cvA

@[simp] theorem w_callv' {f : Nat} {l0 l : List Value} {args : List IOpd} (h : evv env vs args = some l0) (hf : cvF l0 = some f) (hl : cvA l0 = some l) : WOps P vs (⟨dst, .callv, args, none⟩ :: os) n env bx H Q = ICall P f l H fun r H' => (n ≠ 0 → Gent H H') ∧ WOps P vs os (n - 1) (bind1 env dst (some (resEV r))) bx H' Q := by
  unfold cvF at hf
  split at hf
  · rename_i g cap l1
    simp only [Option.some.injEq] at hf; subst hf
    simp only [cvA, Option.some.injEq] at hl; subst hl
    exact w_callv (cap := cap.toList) (by simpa using h)
  · simp at hf

@[simp] theorem w_app' {sz bytes : Nat} {s x : Value} {new : List Value} {r : Value × Heap} (h : ev env vs a = some (.val s)) (h' : ev env vs b = some (.val x)) (hn : H.cellsOf x sz = some new) (hr : H.app s sz bytes (lenS x) new = some r) :
    WOps P vs (⟨some d, .app sz bytes, [a, b], none⟩ :: os) n env bx H Q = ((n ≠ 0 → Gent H r.2) ∧ WOps P vs os (n - 1) ((d, .val r.1) :: env) bx r.2 Q) := w_app h h' hn hr

end

attribute [simp] Aft Brn

end Go.Proofs.Ytpnbojehfngigaa.IM

/- How Lean's data lie in the ideal heap. -/
namespace Go.Proofs.Ytpnbojehfngigaa.IM
open Go
set_option linter.unusedVariables false
set_option linter.unusedSimpArgs false

/-- How a value of a type lies in cells: 'm' tells that what it holds is its own (may be written, ends at its block's tip); F: the blocks that it holds. -/
class Enc (α : Type) where
  sz : Nat
  ag : Bool
  enc : Bool → Heap → α → List Value → List Nat → Prop
  pos : 0 < sz
  one : ag = false → sz = 1
  len : ∀ {m : Bool} {H : Heap} {x : α} {cs : List Value} {F : List Nat}, enc m H x cs F → cs.length = sz
  frame : ∀ {m : Bool} {H H' : Heap} {x : α} {cs : List Value} {F : List Nat}, enc m H x cs F → (∀ b ∈ F, H'.get b = H.get b) → enc m H' x cs F
  alive : ∀ {m : Bool} {H : Heap} {x : α} {cs : List Value} {F : List Nat}, enc m H x cs F → ∀ b ∈ F, ∃ B, H.get b = some B
  weak : ∀ {m : Bool} {H : Heap} {x : α} {cs : List Value} {F : List Nat}, enc m H x cs F → enc false H x cs F

open Enc

/-- Data without slices. -/
class Flat (α : Type) where
  fz : Nat
  fg : Bool
  fl : α → List Value
  fpos : 0 < fz
  fone : fg = false → fz = 1
  flen : ∀ x, (fl x).length = fz

open Flat

instance flatEnc {α : Type} [Flat α] : Enc α where
  sz := fz α
  ag := fg α
  enc _ _ x cs F := cs = fl x ∧ F = []
  pos := fpos
  one := fone
  len h := by obtain ⟨rfl, _⟩ := h; exact flen _
  frame h _ := h
  alive h b hb := by obtain ⟨_, rfl⟩ := h; simp at hb
  weak h := h

instance : Flat Int := ⟨1, false, fun n => [.int .i64 n], by omega, fun _ => rfl, fun _ => rfl⟩
instance : Flat Bool := ⟨1, false, fun b => [.bool b], by omega, fun _ => rfl, fun _ => rfl⟩
instance : Flat UInt8 := ⟨1, false, fun b => [.int .u8 b.toNat], by omega, fun _ => rfl, fun _ => rfl⟩

section
variable {α : Type} [Enc α]

/-- Elements side by side. -/
def encs (m : Bool) (H : Heap) : List α → List Value → List (List Nat) → Prop
  | [], ds, Gs => ds = [] ∧ Gs = []
  | x :: xs, ds, Gs => ∃ cs F es Hs, ds = cs ++ es ∧ Gs = F :: Hs ∧ enc m H x cs F ∧ encs m H xs es Hs

variable {m : Bool} {H H' : Heap} {v : Value} {xs ys : List α} {ds es : List Value} {F : List Nat} {Gs Hs : List (List Nat)}

theorem encs_len : ∀ {xs : List α} {ds : List Value} {Gs : List (List Nat)}, encs m H xs ds Gs → ds.length = xs.length * sz α ∧ Gs.length = xs.length
  | [], ds, Gs, h => by obtain ⟨rfl, rfl⟩ := h; simp
  | x :: xs, ds, Gs, h => by
    obtain ⟨cs, F, es, Hs, rfl, rfl, h1, h2⟩ := h
    have := encs_len h2
    simp [len h1, this, Nat.add_mul, Nat.add_comm]

theorem encs_frame : ∀ {xs : List α} {ds : List Value} {Gs : List (List Nat)}, encs m H xs ds Gs → (∀ b ∈ Gs.flatten, H'.get b = H.get b) → encs m H' xs ds Gs
  | [], ds, Gs, h, _ => h
  | x :: xs, ds, Gs, h, hf => by
    obtain ⟨cs, F, es, Hs, rfl, rfl, h1, h2⟩ := h
    exact ⟨cs, F, es, Hs, rfl, rfl, frame h1 fun b hb => hf b (by simp [hb]), encs_frame h2 fun b hb => hf b (by simp only [List.flatten_cons, List.mem_append]; exact .inr hb)⟩

theorem encs_alive : ∀ {xs : List α} {ds : List Value} {Gs : List (List Nat)}, encs m H xs ds Gs → ∀ b ∈ Gs.flatten, ∃ B, H.get b = some B
  | [], ds, Gs, h, b, hb => by obtain ⟨rfl, rfl⟩ := h; simp at hb
  | x :: xs, ds, Gs, h, b, hb => by
    obtain ⟨cs, F, es, Hs, rfl, rfl, h1, h2⟩ := h
    simp only [List.flatten_cons, List.mem_append] at hb
    rcases hb with hb | hb
    · exact alive h1 b hb
    · exact encs_alive h2 b hb

theorem encs_weak : ∀ {xs : List α} {ds : List Value} {Gs : List (List Nat)}, encs m H xs ds Gs → encs false H xs ds Gs
  | [], ds, Gs, h => h
  | x :: xs, ds, Gs, h => by
    obtain ⟨cs, F, es, Hs, rfl, rfl, h1, h2⟩ := h
    exact ⟨cs, F, es, Hs, rfl, rfl, weak h1, encs_weak h2⟩

theorem encs_append : ∀ {xs : List α} {ds : List Value} {Gs : List (List Nat)}, encs m H xs ds Gs → encs m H ys es Hs → encs m H (xs ++ ys) (ds ++ es) (Gs ++ Hs)
  | [], ds, Gs, h, k => by obtain ⟨rfl, rfl⟩ := h; exact k
  | x :: xs, ds, Gs, h, k => by
    obtain ⟨cs, F, es', Hs', rfl, rfl, h1, h2⟩ := h
    exact ⟨cs, F, es' ++ es, Hs' ++ Hs, by simp, by simp, h1, encs_append h2 k⟩

theorem encs_split : ∀ {xs : List α} {ds : List Value} {Gs : List (List Nat)} (i : Nat), encs m H xs ds Gs → i ≤ xs.length → encs m H (xs.take i) (ds.take (i * sz α)) (Gs.take i) ∧ encs m H (xs.drop i) (ds.drop (i * sz α)) (Gs.drop i)
  | xs, ds, Gs, 0, h, _ => by simp [encs, h]
  | [], ds, Gs, i + 1, h, hi => by simp at hi
  | x :: xs, ds, Gs, i + 1, h, hi => by
    obtain ⟨cs, F, es, Hs, rfl, rfl, h1, h2⟩ := h
    have hl := len h1
    obtain ⟨h3, h4⟩ := encs_split i h2 (by simpa using hi)
    have e : (i + 1) * sz α = cs.length + i * sz α := by rw [hl, Nat.add_mul]; omega
    refine ⟨⟨cs, F, es.take (i * sz α), Hs.take i, ?_, rfl, h1, h3⟩, ?_⟩
    · rw [e, List.take_append, List.take_of_length_le (by omega)]; congr 2; omega
    · have e2 : (cs ++ es).drop (cs.length + i * sz α) = es.drop (i * sz α) := by rw [← List.drop_drop, List.drop_left]
      rw [e, e2]
      simpa using h4

theorem encs_get (h : encs m H xs ds Gs) {i : Nat} (hi : i < xs.length) : ∃ cs F, enc m H xs[i] cs F ∧ (ds.drop (i * sz α)).take (sz α) = cs ∧ Gs[i]? = some F ∧ i * sz α + sz α ≤ ds.length := by
  obtain ⟨_, h2⟩ := encs_split i h (by omega)
  rw [List.drop_eq_getElem_cons hi] at h2
  obtain ⟨cs, F, es, Hs, e1, e2, h3, h4⟩ := h2
  have hl := len h3
  have hl2 := (encs_len h).1
  refine ⟨cs, F, h3, by rw [e1, ← hl]; simp, ?_, ?_⟩
  · have : (Gs.drop i)[0]? = some F := by rw [e2]; rfl
    simpa using this
  · have : (ds.drop (i * sz α)).length = (cs ++ es).length := by rw [e1]
    simp at this
    have h5 : (i + 1) * sz α ≤ xs.length * sz α := Nat.mul_le_mul_right _ hi
    rw [Nat.add_mul, Nat.one_mul] at h5
    omega

/-- One element has another value. -/
theorem encs_set (h : encs m H xs ds Gs) {i : Nat} (hi : i < xs.length) {y : α} {cs : List Value} {F : List Nat} (hy : enc m H y cs F) : encs m H (xs.set i y) (put ds (i * sz α) cs) (Gs.set i F) := by
  obtain ⟨h1, h2⟩ := encs_split i h (by omega)
  rw [List.drop_eq_getElem_cons hi] at h2
  obtain ⟨cs0, F0, es, Hs, e1, e2, h3, h4⟩ := h2
  have hl := len h3
  have hl2 := len hy
  have hg := (encs_len h).2
  have e3 : xs.set i y = xs.take i ++ y :: xs.drop (i + 1) := by rw [List.set_eq_take_append_cons_drop, if_pos hi]
  have e4 : Gs.set i F = Gs.take i ++ F :: Gs.drop (i + 1) := by rw [List.set_eq_take_append_cons_drop, if_pos (by omega)]
  have e5 : Gs.drop (i + 1) = Hs := by
    have := congrArg (List.drop 1) e2
    simpa [List.drop_drop] using this
  have e6 : put ds (i * sz α) cs = ds.take (i * sz α) ++ (cs ++ es) := by
    unfold put
    rw [List.append_assoc]
    congr 2
    have := congrArg (List.drop (sz α)) e1
    rw [List.drop_drop, ← hl, List.drop_left] at this
    rw [hl2, ← hl]; exact this
  rw [e3, e4, e5, e6]
  exact encs_append h1 ⟨cs, F, es, Hs, rfl, rfl, hy, h4⟩

/-- A slice. -/
def Sl (m : Bool) (H : Heap) (v : Value) (xs : List α) (F : List Nat) : Prop :=
  (v = .slice none 0 0 ∧ xs = [] ∧ F = []) ∨
  ∃ b c pre ds post rw Gs, v = .slice (some ⟨b, pre.length, none⟩) xs.length c ∧ xs.length ≤ c ∧ H.get b = some ⟨pre ++ ds ++ post, sz α, rw⟩ ∧ encs m H xs ds Gs ∧ F = b :: Gs.flatten ∧
    (m = true → rw = true ∧ c = xs.length ∧ post = [])

instance listEnc : Enc (List α) where
  sz := 1
  ag := false
  enc m H xs cs F := ∃ v, cs = [v] ∧ Sl m H v xs F
  pos := by omega
  one _ := rfl
  len h := by obtain ⟨v, rfl, _⟩ := h; rfl
  frame {m H H' x cs F} h hf := by
    obtain ⟨v, rfl, h⟩ := h
    refine ⟨v, rfl, ?_⟩
    rcases h with h | ⟨b, c, pre, ds, post, rw, Gs, h1, h2, h3, h4, rfl, h6⟩
    · exact .inl h
    · exact .inr ⟨b, c, pre, ds, post, rw, Gs, h1, h2, by rw [hf b (by simp)]; exact h3, encs_frame h4 fun b hb => hf b (List.mem_cons_of_mem _ hb), rfl, h6⟩
  alive {m H x cs F} h b hb := by
    obtain ⟨v, rfl, h⟩ := h
    rcases h with ⟨_, _, rfl⟩ | ⟨b0, c, pre, ds, post, rw, Gs, h1, h2, h3, h4, rfl, h6⟩
    · simp at hb
    · rcases List.mem_cons.1 hb with rfl | hb
      · exact ⟨_, h3⟩
      · exact encs_alive h4 b hb
  weak {m H x cs F} h := by
    obtain ⟨v, rfl, h⟩ := h
    refine ⟨v, rfl, ?_⟩
    rcases h with h | ⟨b, c, pre, ds, post, rw, Gs, h1, h2, h3, h4, rfl, h6⟩
    · exact .inl h
    · exact .inr ⟨b, c, pre, ds, post, rw, Gs, h1, h2, h3, encs_weak h4, rfl, by simp⟩

theorem Sl.frame (h : Sl m H v xs F) (hf : ∀ b ∈ F, H'.get b = H.get b) : Sl m H' v xs F := by
  obtain ⟨v', e, h'⟩ := Enc.frame (show Enc.enc m H xs [v] F from ⟨v, rfl, h⟩) hf
  simp only [List.cons.injEq, and_true] at e; subst e; exact h'

theorem Sl.alive (h : Sl m H v xs F) : ∀ b ∈ F, ∃ B, H.get b = some B := Enc.alive (show Enc.enc m H xs [v] F from ⟨v, rfl, h⟩)

theorem Sl.weak (h : Sl m H v xs F) : Sl false H v xs F := by
  obtain ⟨v', e, h'⟩ := Enc.weak (show Enc.enc m H xs [v] F from ⟨v, rfl, h⟩)
  simp only [List.cons.injEq, and_true] at e; subst e; exact h'

theorem get_some_lt {b : Nat} {B : Blk} (h : H.get b = some B) : b < H.length := Heap.get_lt h

theorem enc_gent {x : α} {cs : List Value} (h : enc m H x cs F) (hg : Gent H H') : enc m H' x cs F :=
  Enc.frame h fun b hb => by obtain ⟨B, hB⟩ := Enc.alive h b hb; exact hg.2 b (Heap.get_lt hB)

theorem Sl.gent (h : Sl m H v xs F) (hg : Gent H H') : Sl m H' v xs F :=
  h.frame fun b hb => by obtain ⟨B, hB⟩ := h.alive b hb; exact hg.2 b (Heap.get_lt hB)

/-! ### operations on slices -/

theorem Sl.lenV (h : Sl m H v xs F) : lenV v = some (.int .i64 xs.length) := by
  rcases h with ⟨rfl, rfl, _⟩ | ⟨b, c, pre, ds, post, rw, Gs, rfl, h⟩ <;> rfl

theorem Sl.lenS (h : Sl m H v xs F) : lenS v = xs.length := by
  rcases h with ⟨rfl, rfl, _⟩ | ⟨b, c, pre, ds, post, rw, Gs, rfl, h⟩ <;> rfl

/-- Where an element lies. -/
def eP (v : Value) (i off : Nat) (sz : Nat) : Value := match v with
  | .slice (some ⟨b, o, _⟩) _ _ => .pointer (some ⟨b, o + i * sz + off, none⟩)
  | _ => .pointer none

theorem Sl.elemP (h : Sl m H v xs F) {i : Nat} (hi : i < xs.length) (k : IntKind) : elemP v (.int k i) (sz α) = some (eP v i 0 (sz α)) := by
  rcases h with ⟨rfl, rfl, _⟩ | ⟨b, c, pre, ds, post, rw, Gs, rfl, h⟩
  · simp at hi
  · simp only [IM.elemP, eP]
    rw [if_pos (by omega)]
    simp

theorem Sl.addP (h : Sl m H v xs F) {i : Nat} (hi : i < xs.length) (off off' s : Nat) : addP (eP v i off s) off' = some (eP v i (off + off') s) := by
  rcases h with ⟨rfl, rfl, _⟩ | ⟨b, c, pre, ds, post, rw, Gs, rfl, h⟩
  · simp at hi
  · simp [IM.addP, eP, Nat.add_assoc]

theorem drop_take_mid {β : Type} (pre ds post : List β) (a k n off : Nat) (h1 : a + k ≤ ds.length) (h2 : off + n ≤ k) :
    ((pre ++ ds ++ post).drop (pre.length + a + off)).take n = (((ds.drop a).take k).drop off).take n := by
  rw [List.append_assoc, Nat.add_assoc, ← List.drop_drop, List.drop_left, List.drop_append_of_le_length (by omega), List.take_append_of_le_length (by simp; omega), ← List.drop_drop, List.drop_take, List.take_take]
  congr 1; omega

/-- What lies at an element. -/
theorem Sl.rd (h : Sl m H v xs F) {i : Nat} (hi : i < xs.length) : ∃ cs Fi, enc m H xs[i] cs Fi ∧ (∀ b ∈ Fi, b ∈ F) ∧ ∀ off n, off + n ≤ sz α → H.rd (eP v i off (sz α)) n = some ((cs.drop off).take n) := by
  rcases h with ⟨rfl, rfl, _⟩ | ⟨b, c, pre, ds, post, rw, Gs, rfl, h1, h2, h3, rfl, h4⟩
  · simp at hi
  · obtain ⟨cs, Fi, g1, g2, g3, g4⟩ := encs_get h3 hi
    refine ⟨cs, Fi, g1, fun b hb => List.mem_cons_of_mem _ (List.mem_flatten.2 ⟨Fi, List.mem_of_getElem? g3, hb⟩), fun off n hn => ?_⟩
    simp only [Heap.rd, eP, h2]
    rw [if_pos (by simp; omega), drop_take_mid pre ds post (i * sz α) (sz α) n off g4 hn, g2]

theorem Sl.cellsOf (h : Sl m H v xs F) : ∃ ds Gs, H.cellsOf v (sz α) = some ds ∧ encs m H xs ds Gs ∧ (∀ b ∈ Gs.flatten, b ∈ F) := by
  rcases h with ⟨rfl, rfl, rfl⟩ | ⟨b, c, pre, ds, post, rw, Gs, rfl, h1, h2, h3, rfl, h4⟩
  · exact ⟨[], [], rfl, ⟨rfl, rfl⟩, by simp⟩
  · refine ⟨ds, Gs, ?_, h3, fun b hb => List.mem_cons_of_mem _ hb⟩
    have hl := (encs_len h3).1
    simp only [Heap.cellsOf, h2]
    rw [if_pos (by simp; omega), List.append_assoc, List.drop_left, ← hl, List.take_left]

theorem Sl.szOk (h : Sl m H v xs F) : H.szOk v (sz α) = true := by
  rcases h with ⟨rfl, rfl, rfl⟩ | ⟨b, c, pre, ds, post, rw, Gs, rfl, h1, h2, h3, rfl, h4⟩
  · rfl
  · simp [Heap.szOk, h2]

/-- A slice of a slice. -/
def cutv (v : Value) (lo hi : Nat) (sz : Nat) : Value := match v with
  | .slice (some ⟨b, o, _⟩) _ c => .slice (some ⟨b, o + lo * sz, none⟩) (hi - lo) (c - lo)
  | _ => v

theorem Sl.cutS (h : Sl m H v xs F) {lo hi : Nat} (h1 : lo ≤ hi) (h2 : hi ≤ xs.length) {l u : Option Int} (hl : l.getD 0 = lo) (hu : u.getD xs.length = hi) : cutS v l u (sz α) = some (cutv v lo hi (sz α)) := by
  rcases h with ⟨rfl, rfl, rfl⟩ | ⟨b, c, pre, ds, post, rw, Gs, rfl, h3, h4⟩
  · simp only [List.length_nil, Nat.le_zero] at h2
    subst h2
    have : lo = 0 := by omega
    subst this
    simp at hl hu
    simp [IM.cutS, cutv, hl, hu]
  · simp only [IM.cutS, cutv, hl, hu]
    rw [if_pos (by omega)]
    simp

theorem flatten_take_drop {β : Type} (Gs : List (List β)) (lo hi : Nat) : ∀ b ∈ ((Gs.take hi).drop lo).flatten, b ∈ Gs.flatten := by
  intro b hb
  obtain ⟨l, h1, h2⟩ := List.mem_flatten.1 hb
  exact List.mem_flatten.2 ⟨l, List.mem_of_mem_take (List.mem_of_mem_drop h1), h2⟩

theorem Sl.cut (h : Sl m H v xs F) {lo hi : Nat} (h1 : lo ≤ hi) (h2 : hi ≤ xs.length) : ∃ F', Sl false H (cutv v lo hi (sz α)) ((xs.take hi).drop lo) F' ∧ ∀ b ∈ F', b ∈ F := by
  rcases h with ⟨rfl, rfl, rfl⟩ | ⟨b, c, pre, ds, post, rw, Gs, rfl, h3, h4, h5, rfl, h6⟩
  · exact ⟨[], .inl ⟨rfl, by simp, rfl⟩, by simp⟩
  · have hl := encs_len h5
    obtain ⟨g1, _⟩ := encs_split hi h5 h2
    obtain ⟨_, g2⟩ := encs_split lo g1 (by simp; omega)
    have hm : lo * sz α ≤ hi * sz α := Nat.mul_le_mul_right _ h1
    have hm2 : hi * sz α ≤ xs.length * sz α := Nat.mul_le_mul_right _ h2
    refine ⟨b :: ((Gs.take hi).drop lo).flatten, .inr ⟨b, c - lo, pre ++ ds.take (lo * sz α), (ds.take (hi * sz α)).drop (lo * sz α), ds.drop (hi * sz α) ++ post, rw, _, ?_, ?_, ?_, encs_weak g2, rfl, by simp⟩, ?_⟩
    · simp only [cutv]
      congr 2
      · simp; omega
      · simp; omega
    · simp; omega
    · rw [h4]
      congr 2
      simp only [List.append_assoc]
      congr 1
      rw [← List.append_assoc, ← List.append_assoc]
      congr 1
      have e1 : ds.take (lo * sz α) ++ (ds.take (hi * sz α)).drop (lo * sz α) = ds.take (hi * sz α) := by
        conv => rhs; rw [← List.take_append_drop (lo * sz α) (ds.take (hi * sz α))]
        rw [List.take_take, Nat.min_eq_left hm]
      rw [e1, List.take_append_drop]
    · intro b' hb
      rcases List.mem_cons.1 hb with rfl | hb
      · simp
      · exact List.mem_cons_of_mem _ (flatten_take_drop Gs lo hi b' hb)

/-- From some element on: what is one's own stays so. -/
theorem Sl.tail (h : Sl true H v xs F) {lo : Nat} (h1 : lo ≤ xs.length) : ∃ F', Sl true H (cutv v lo xs.length (sz α)) (xs.drop lo) F' ∧ F'.Sublist F := by
  rcases h with ⟨rfl, rfl, rfl⟩ | ⟨b, c, pre, ds, post, rw, Gs, rfl, h3, h4, h5, rfl, h6⟩
  · exact ⟨[], .inl ⟨rfl, by simp, rfl⟩, List.Sublist.refl _⟩
  · obtain ⟨rfl, rfl, rfl⟩ := h6 rfl
    have hl := encs_len h5
    obtain ⟨_, g2⟩ := encs_split lo h5 h1
    have hm : lo * sz α ≤ xs.length * sz α := Nat.mul_le_mul_right _ h1
    refine ⟨b :: (Gs.drop lo).flatten, .inr ⟨b, xs.length - lo, pre ++ ds.take (lo * sz α), ds.drop (lo * sz α), [], true, _, ?_, by simp, ?_, g2, rfl, fun _ => ⟨rfl, by simp, rfl⟩⟩, ?_⟩
    · simp only [cutv]
      congr 2
      · simp; omega
      · simp
    · rw [h4]; simp
    · refine List.Sublist.cons_cons _ ?_
      conv => rhs; rw [← List.take_append_drop lo Gs]
      rw [List.flatten_append]
      exact List.sublist_append_right _ _

end
end Go.Proofs.Ytpnbojehfngigaa.IM

/- How Lean's data lie in the ideal heap: slices that are one's own. -/
namespace Go.Proofs.Ytpnbojehfngigaa.IM
open Go
set_option linter.unusedVariables false
set_option linter.unusedSimpArgs false
open Enc Flat

section
variable {α : Type} [Enc α] {m : Bool} {H H' : Heap} {v : Value} {xs ys : List α} {ds es : List Value} {F : List Nat} {Gs : List (List Nat)}

theorem Sl.nil {m : Bool} {H : Heap} : Sl m H (.slice none 0 0) ([] : List α) [] := .inl ⟨rfl, rfl, rfl⟩

/-- A block that was just laid. -/
theorem Sl.laid {m : Bool} (h : encs m H xs ds Gs) : Sl m (H.add ⟨ds, sz α, true⟩) (.slice (some ⟨H.length, 0, none⟩) xs.length xs.length) xs (H.length :: Gs.flatten) := by
  refine .inr ⟨H.length, xs.length, [], ds, [], true, Gs, rfl, Nat.le_refl _, by rw [get_add]; simp, encs_frame h fun b hb => ?_, rfl, fun _ => ⟨rfl, rfl, rfl⟩⟩
  obtain ⟨B, hB⟩ := encs_alive h b hb
  exact Heap.get_old H _ (Heap.get_lt hB)

theorem encs_cells (h : encs m H xs ds Gs) : xs = [] ↔ ds = [] := by
  have hl := (encs_len h).1
  have : 0 < sz α := pos
  constructor
  · rintro rfl; simpa using hl
  · rintro rfl
    rcases Nat.mul_eq_zero.1 (show xs.length * sz α = 0 from hl.symm) with h | h
    · exact List.length_eq_zero_iff.1 h
    · omega

/-- append of what is one's own: the old block is gone. -/
theorem nodup_head {F : List Nat} (h : F.Nodup) : ∀ b ∈ F.tail, F.head? ≠ some b := by
  intro b hb e
  cases F with
  | nil => simp at hb
  | cons a t =>
    simp at hb e
    subst e
    exact (List.nodup_cons.1 h).1 hb

theorem Sl.app (h : Sl true H v xs F) (hF : ∀ b ∈ F.tail, F.head? ≠ some b) (hy : encs true H ys es Gs) (hG : ∀ b ∈ Gs.flatten, F.head? ≠ some b) (hk : ys ≠ []) {bytes : Nat} (hb : 0 < bytes ∧ bytes ≤ 256) (hl : xs.length + ys.length ≤ 2 ^ 38) :
    ∃ v' H', H.app v (sz α) bytes ys.length es = some (v', H') ∧ Sl true H' v' (xs ++ ys) (H.length :: (F.tail ++ Gs.flatten)) ∧ H.length ≤ H'.length ∧ ∀ b, b < H.length → F.head? ≠ some b → H'.get b = H.get b := by
  have hlen : ys.length ≠ 0 := fun e => hk (List.length_eq_zero_iff.1 e)
  have hpos : 0 < sz α := pos
  have hle := (encs_len hy).1
  unfold Heap.app
  rw [if_neg hlen, if_neg (by rw [h.lenS]; omega)]
  rcases h with ⟨rfl, rfl, rfl⟩ | ⟨b, c, pre, ds, post, rw, Gs0, rfl, h1, h2, h3, rfl, h4⟩
  · refine ⟨_, _, rfl, ?_, by simp, fun b hb _ => Heap.get_old H _ hb⟩
    simpa [Heap.add] using (Sl.laid hy)
  · obtain ⟨rfl, rfl, rfl⟩ := h4 rfl
    have hds := (encs_len h3).1
    have hbl := Heap.get_lt h2
    simp only [h2]
    rw [if_pos ⟨trivial, trivial⟩, if_neg (by omega), if_pos (by simp [hds])]
    have hnb : ∀ b' ∈ Gs0.flatten, b' ≠ b := by
      rintro b' hb' rfl
      exact hF b' hb' rfl
    refine ⟨_, _, rfl, ?_, ?_, fun b' hb' hne => ?_⟩
    · refine .inr ⟨H.length, xs.length + ys.length, [], ds ++ es, [], true, Gs0 ++ Gs, ?_, by simp, ?_, ?_, ?_, fun _ => ⟨rfl, by simp, rfl⟩⟩
      · simp
      · have : ∀ K : Heap, K.length = H.length → ∀ B, Heap.get (K ++ [some B]) H.length = some B := fun K hK B => by rw [← hK, Heap.get_new]
        split
        · rw [this H rfl]; simp
        · rw [this _ (by simp)]; simp
      · have key : ∀ b' B, b' ≠ b → H.get b' = some B → Heap.get ((if (pre ++ ds ++ []).isEmpty = true then H else List.set H b none) ++ [some ⟨(pre ++ ds ++ []).drop pre.length ++ es, sz α, true⟩]) b' = H.get b' := by
          intro b' B hne hB
          have := Heap.get_lt hB
          split
          · exact Heap.get_old H _ this
          · rw [Heap.get_old _ _ (by simpa using this), Heap.get_set_ne (fun e => hne e.symm)]
        refine encs_append (encs_frame h3 fun b' hb' => ?_) (encs_frame hy fun b' hb' => ?_)
        · obtain ⟨B, hB⟩ := encs_alive h3 b' hb'
          exact key b' B (hnb b' hb') hB
        · obtain ⟨B, hB⟩ := encs_alive hy b' hb'
          exact key b' B (fun e => hG b' hb' (by rw [e]; rfl)) hB
      · simp
    · split <;> simp
    · have hne' : b ≠ b' := fun e => hne (by simp [e])
      split
      · exact Heap.get_old H _ hb'
      · rw [Heap.get_old _ _ (by simpa using hb'), Heap.get_set_ne hne']

/-- A part of an element is written. -/
theorem Sl.wr (h : Sl true H v xs F) (hF : ∀ b ∈ F.tail, F.head? ≠ some b) {i : Nat} (hi : i < xs.length) : ∃ b L R cs Fi, F = b :: (L ++ Fi ++ R) ∧ enc true H xs[i] cs Fi ∧ ∀ off us, off + us.length ≤ sz α → ∃ H', H.wr (eP v i off (sz α)) us = some H' ∧ H'.length = H.length ∧
    (∀ b', b' ≠ b → H'.get b' = H.get b') ∧ ∀ y Fy, enc true H' y (put cs off us) Fy → Sl true H' v (xs.set i y) (b :: (L ++ Fy ++ R)) := by
  rcases h with ⟨rfl, rfl, rfl⟩ | ⟨b, c, pre, ds, post, rw, Gs, rfl, h1, h2, h3, rfl, h4⟩
  · simp at hi
  · obtain ⟨rfl, rfl, rfl⟩ := h4 rfl
    obtain ⟨cs, Fi, g1, g2, g3, g4⟩ := encs_get h3 hi
    have hgl := (encs_len h3).2
    have hcl := len g1
    have hsplit : Gs.flatten = (Gs.take i).flatten ++ Fi ++ (Gs.drop (i + 1)).flatten := by
      conv => lhs; rw [← List.take_append_drop i Gs]
      rw [List.drop_eq_getElem_cons (by omega), List.flatten_append, List.flatten_cons]
      have : Gs[i] = Fi := by
        have := List.getElem?_eq_getElem (l := Gs) (i := i) (by omega)
        rw [this] at g3; simpa using g3
      rw [this, List.append_assoc]
    refine ⟨b, (Gs.take i).flatten, (Gs.drop (i + 1)).flatten, cs, Fi, by rw [hsplit], g1, fun off us hus => ?_⟩
    have hbl := Heap.get_lt h2
    refine ⟨H.set b (some ⟨put (pre ++ ds ++ []) (pre.length + i * sz α + off) us, sz α, true⟩), ?_, by simp, fun b' hne => Heap.get_set_ne (fun e => hne e.symm), fun y Fy hy => ?_⟩
    · simp only [Heap.wr, eP, h2]
      rw [if_pos ⟨trivial, by simp; omega⟩]
    · have hput : put (pre ++ ds ++ []) (pre.length + i * sz α + off) us = pre ++ put ds (i * sz α) (put cs off us) ++ [] := by
        simp only [List.append_nil]
        apply List.ext_getElem?
        intro j
        rw [put_get _ _ _ (by simp; omega)]
        have hpl : (put cs off us).length = cs.length := put_length _ _ _ (by omega)
        by_cases hj : j < pre.length
        · rw [if_pos (by omega), List.getElem?_append_left hj, List.getElem?_append_left hj]
        · rw [List.getElem?_append_right (by omega), List.getElem?_append_right (by omega), put_get _ _ _ (by omega)]
          have hcsget : ∀ k, k < sz α → cs[k]? = ds[i * sz α + k]? := by
            intro k hk
            rw [← g2, List.getElem?_take, if_pos hk, List.getElem?_drop]
          by_cases c1 : j < pre.length + i * sz α + off
          · rw [if_pos c1]
            by_cases c2 : j - pre.length < i * sz α
            · rw [if_pos c2]
            · rw [if_neg c2, if_pos (by omega), put_get _ _ _ (by omega), if_pos (by omega), hcsget _ (by omega)]
              congr 1; omega
          · rw [if_neg c1]
            by_cases c2 : j < pre.length + i * sz α + off + us.length
            · rw [if_pos c2, if_neg (by omega), if_pos (by omega), put_get _ _ _ (by omega), if_neg (by omega), if_pos (by omega)]
              congr 1; omega
            · rw [if_neg c2, if_neg (by omega)]
              by_cases c3 : j - pre.length < i * sz α + (put cs off us).length
              · rw [if_pos c3, put_get _ _ _ (by omega), if_neg (by omega), if_neg (by omega), hcsget _ (by omega)]
                congr 1; omega
              · rw [if_neg c3]
      have hgs : (Gs.set i Fy).flatten = (Gs.take i).flatten ++ Fy ++ (Gs.drop (i + 1)).flatten := by
        rw [List.set_eq_take_append_cons_drop, if_pos (by omega), List.flatten_append, List.flatten_cons, List.append_assoc]
      refine .inr ⟨b, (xs.set i y).length, pre, put ds (i * sz α) (put cs off us), [], true, Gs.set i Fy, by simp, Nat.le_refl _, ?_, ?_, by rw [hgs], fun _ => ⟨rfl, rfl, rfl⟩⟩
      · rw [Heap.get_set_same hbl, hput]
      · refine encs_set (encs_frame h3 fun b' hb' => ?_) hi hy
        refine Heap.get_set_ne ?_
        rintro rfl
        exact hF _ hb' rfl

end

/-! ### what is new -/

/-- Nothing below b0 has another content. -/
def Keep (b0 : Nat) (H H' : Heap) : Prop := H.length ≤ H'.length ∧ ∀ b, b < b0 → H'.get b = H.get b

theorem Keep.refl (b0 : Nat) (H : Heap) : Keep b0 H H := ⟨Nat.le_refl _, fun _ _ => rfl⟩
theorem Keep.trans {b0 : Nat} {H H1 H2 : Heap} (h : Keep b0 H H1) (k : Keep b0 H1 H2) : Keep b0 H H2 := ⟨Nat.le_trans h.1 k.1, fun b hb => by rw [k.2 b hb, h.2 b hb]⟩
theorem Keep.gent {H H' : Heap} (h : Keep H.length H H') : Gent H H' := h
theorem Gent.keep {H H' : Heap} {b0 : Nat} (h : Gent H H') (hb : b0 ≤ H.length) : Keep b0 H H' := ⟨h.1, fun b h2 => h.2 b (by omega)⟩
theorem Keep.le {b0 b1 : Nat} {H H' : Heap} (h : Keep b1 H H') (hb : b0 ≤ b1) : Keep b0 H H' := ⟨h.1, fun b h2 => h.2 b (by omega)⟩
theorem Keep.add {b0 : Nat} {H : Heap} (B : Blk) (hb : b0 ≤ H.length) : Keep b0 H (H.add B) := ⟨by simp, fun b h => Heap.get_old H _ (by omega)⟩

section
variable {α : Type} [Enc α] {m : Bool} {H H' : Heap} {v : Value} {xs ys : List α} {ds es : List Value} {F : List Nat} {Gs : List (List Nat)} {b0 : Nat}

/-- A slice that may be read. -/
def Rd (H : Heap) (v : Value) (xs : List α) : Prop := ∃ F, Sl false H v xs F

/-- A slice that is one's own, all of it laid from b0 on. -/
def Own (b0 : Nat) (H : Heap) (v : Value) (xs : List α) : Prop := ∃ F, Sl true H v xs F ∧ F.Nodup ∧ ∀ b ∈ F, b0 ≤ b

theorem Own.rd (h : Own b0 H v xs) : Rd H v xs := by obtain ⟨F, h, _⟩ := h; exact ⟨F, h.weak⟩
theorem Rd.gent (h : Rd H v xs) (hg : Gent H H') : Rd H' v xs := by obtain ⟨F, h⟩ := h; exact ⟨F, h.gent hg⟩
theorem Own.gent (h : Own b0 H v xs) (hg : Gent H H') : Own b0 H' v xs := by obtain ⟨F, h, k⟩ := h; exact ⟨F, h.gent hg, k⟩
theorem Own.le (h : Own b0 H v xs) {b1 : Nat} (hb : b1 ≤ b0) : Own b1 H v xs := by obtain ⟨F, h, k1, k2⟩ := h; exact ⟨F, h, k1, fun b hb => by have := k2 b hb; omega⟩
theorem Own.nil : Own b0 H (.slice none 0 0) ([] : List α) := ⟨[], .nil, by simp, by simp⟩
theorem Rd.nil : Rd H (.slice none 0 0) ([] : List α) := ⟨[], .nil⟩

theorem Rd.cl (h : Rd H v xs) : IM.cl v = [v] := by obtain ⟨F, h⟩ := h; rcases h with ⟨rfl, _⟩ | ⟨b, c, pre, ds, post, rw, Gs, rfl, h⟩ <;> rfl
theorem Rd.isNil (h : Rd H v xs) : (v = .slice none 0 0 ∧ xs = []) ∨ ∃ a n c, v = .slice (some a) n c := by
  obtain ⟨F, h⟩ := h
  rcases h with ⟨rfl, rfl, _⟩ | ⟨b, c, pre, ds, post, rw, Gs, rfl, h⟩
  · exact .inl ⟨rfl, rfl⟩
  · exact .inr ⟨_, _, _, rfl⟩
theorem Rd.elemPI (h : Rd H v xs) {i : Int} (hi : 0 ≤ i ∧ i < xs.length) (k : IntKind) : IM.elemP v (.int k i) (sz α) = some (eP v i.toNat 0 (sz α)) := by
  obtain ⟨F, h⟩ := h
  have := h.elemP (i := i.toNat) (by omega) k
  rwa [Int.toNat_of_nonneg hi.1] at this
theorem Rd.lenV (h : Rd H v xs) : IM.lenV v = some (.int .i64 xs.length) := by obtain ⟨F, h⟩ := h; exact h.lenV
theorem Rd.lenS (h : Rd H v xs) : IM.lenS v = xs.length := by obtain ⟨F, h⟩ := h; exact h.lenS
theorem Rd.szOk (h : Rd H v xs) : H.szOk v (sz α) = true := by obtain ⟨F, h⟩ := h; exact h.szOk
theorem Rd.elemP (h : Rd H v xs) {i : Nat} (hi : i < xs.length) (k : IntKind) : IM.elemP v (.int k i) (sz α) = some (eP v i 0 (sz α)) := by obtain ⟨F, h⟩ := h; exact h.elemP hi k
theorem Rd.addP (h : Rd H v xs) {i : Nat} (hi : i < xs.length) (off off' s : Nat) : IM.addP (eP v i off s) off' = some (eP v i (off + off') s) := by obtain ⟨F, h⟩ := h; exact h.addP hi off off' s
theorem Rd.cutS (h : Rd H v xs) {lo hi : Nat} (h1 : lo ≤ hi) (h2 : hi ≤ xs.length) {l u : Option Int} (hl : l.getD 0 = lo) (hu : u.getD xs.length = hi) : IM.cutS v l u (sz α) = some (cutv v lo hi (sz α)) := by obtain ⟨F, h⟩ := h; exact h.cutS h1 h2 hl hu
theorem Rd.cut (h : Rd H v xs) {lo hi : Nat} (h1 : lo ≤ hi) (h2 : hi ≤ xs.length) : Rd H (cutv v lo hi (sz α)) ((xs.take hi).drop lo) := by
  obtain ⟨F, h⟩ := h
  obtain ⟨F', h', _⟩ := h.cut h1 h2
  exact ⟨F', h'⟩

end

section
variable {α : Type} [Flat α] {m : Bool} {H H' : Heap} {v : Value} {xs ys : List α} {ds es : List Value} {F : List Nat} {Gs : List (List Nat)} {b0 : Nat}

theorem encs_flat : ∀ {xs : List α} {ds : List Value} {Gs : List (List Nat)}, encs m H xs ds Gs → ds = xs.flatMap fl ∧ Gs.flatten = []
  | [], ds, Gs, h => by obtain ⟨rfl, rfl⟩ := h; simp
  | x :: xs, ds, Gs, h => by
    obtain ⟨cs, F, es, Hs, rfl, rfl, ⟨rfl, rfl⟩, h2⟩ := h
    obtain ⟨rfl, h3⟩ := encs_flat h2
    simp [h3]

theorem flat_encs (m : Bool) (H : Heap) : ∀ (xs : List α), encs m H xs (xs.flatMap fl) (List.replicate xs.length [])
  | [] => ⟨rfl, rfl⟩
  | x :: xs => ⟨fl x, [], xs.flatMap fl, List.replicate xs.length [], by simp, by simp [List.replicate_succ], ⟨rfl, rfl⟩, flat_encs m H xs⟩

theorem flatten_rep (n : Nat) : (List.replicate n ([] : List Nat)).flatten = [] := by simp

/-- What lies at an element. -/
theorem Rd.at (h : Rd H v xs) {i : Nat} (hi : i < xs.length) {off n : Nat} (ho : off + n ≤ fz α) : H.rd (eP v i off (sz α)) n = some (((fl xs[i]).drop off).take n) := by
  obtain ⟨F, h⟩ := h
  obtain ⟨cs, Fi, ⟨rfl, rfl⟩, _, h3⟩ := h.rd hi
  exact h3 off n ho

theorem Rd.all (h : Rd H v xs) {i : Nat} (hi : i < xs.length) : H.rd (eP v i 0 (sz α)) (sz α) = some (fl xs[i]) := by
  rw [h.at hi (by simp [sz])]
  simp [List.take_of_length_le, flen, sz]

theorem Rd.cellsOf (h : Rd H v xs) : H.cellsOf v (sz α) = some (xs.flatMap fl) := by
  obtain ⟨F, h⟩ := h
  obtain ⟨ds, Gs, h1, h2, _⟩ := h.cellsOf
  rw [(encs_flat h2).1] at h1; exact h1

/-- A new slice of these. -/
theorem Own.laid (hb : b0 ≤ H.length) (xs : List α) : Own b0 (H.add ⟨xs.flatMap fl, sz α, true⟩) (.slice (some ⟨H.length, 0, none⟩) xs.length xs.length) xs :=
  ⟨_, .laid (flat_encs true H xs), by rw [flatten_rep]; simp, by rw [flatten_rep]; simpa using hb⟩

theorem Own.app (h : Own b0 H v xs) (hb : b0 ≤ H.length) (ys : List α) {bytes : Nat} (hy : 0 < bytes ∧ bytes ≤ 256) (hl : xs.length + ys.length ≤ 2 ^ 38) :
    ∃ v' H', H.app v (sz α) bytes ys.length (ys.flatMap fl) = some (v', H') ∧ Own b0 H' v' (xs ++ ys) ∧ Keep b0 H H' := by
  obtain ⟨F, h, h1, h2⟩ := h
  by_cases hk : ys = []
  · subst hk
    refine ⟨v, H, ?_, by simpa using ⟨F, h, h1, h2⟩, Keep.refl _ _⟩
    unfold Heap.app
    rcases h with ⟨rfl, _⟩ | ⟨b, c, pre, ds, post, rw, Gs, rfl, _⟩ <;> simp
  · obtain ⟨v', H', g1, g2, g3, g4⟩ := h.app (nodup_head h1) (flat_encs true H ys) (by rw [flatten_rep]; simp) hk hy hl
    refine ⟨v', H', g1, ⟨_, g2, ?_, ?_⟩, g3, fun b hbb => g4 b (by omega) fun e => ?_⟩
    · rw [flatten_rep, List.append_nil]
      have : F.tail = [] := by
        rcases h with ⟨_, _, rfl⟩ | ⟨b, c, pre, ds, post, rw, Gs, _, _, _, h3, rfl, _⟩
        · rfl
        · simpa using (encs_flat h3).2
      rw [this]; simp
    · intro b hbm
      rcases List.mem_cons.1 hbm with rfl | hbm
      · exact hb
      · rw [flatten_rep, List.append_nil] at hbm
        exact h2 b (List.mem_of_mem_tail hbm)
    · have := h2 b (List.mem_of_mem_head? e)
      omega

/-- One of these is written, or a part of it. -/
theorem Own.wr (h : Own b0 H v xs) {i : Nat} (hi : i < xs.length) {off : Nat} {us : List Value} (ho : off + us.length ≤ fz α) {y : α} (hy : put (fl xs[i]) off us = fl y) :
    ∃ H', H.wr (eP v i off (sz α)) us = some H' ∧ Own b0 H' v (xs.set i y) ∧ Keep b0 H H' := by
  obtain ⟨F, h, h1, h2⟩ := h
  obtain ⟨b, L, R, cs, Fi, rfl, ⟨rfl, rfl⟩, g3⟩ := h.wr (nodup_head h1) hi
  obtain ⟨H', q1, q2, q3, q4⟩ := g3 off us ho
  refine ⟨H', q1, ⟨_, q4 y [] ⟨hy, rfl⟩, h1, h2⟩, by omega, fun b' hb => q3 b' ?_⟩
  rintro rfl
  have := h2 b' (by simp)
  omega

end
end Go.Proofs.Ytpnbojehfngigaa.IM

/- Loops, numbers, and a few words more for walks. -/
namespace Go.Proofs.Ytpnbojehfngigaa.IM
open Go Enc Flat
set_option linter.unusedVariables false
set_option linter.unusedSimpArgs false

section
variable {P : Program} {C : Cfg}

/-- A loop: what holds at each round's head of some data, and a number that goes down. -/
theorem W_meas {β : Type} {x : IC} {st : St} {Q : IExit → St → Prop} (I : β → St → Prop) (μ : β → Nat) (b0 : β) (h0 : I b0 st) (hr : ∀ b s, I b s → W P C x s (fun e s' => match e with | .normal => ∃ b', I b' s' ∧ μ b' < μ b | e => Q e s')) : W P C (.loop x) st Q := by
  have key : ∀ n b s, μ b = n → I b s → ∃ e s', Rounds P C x s e s' ∧ Q e s' := by
    intro n
    induction n using Nat.strongRecOn with
    | _ n ih =>
      intro b s hn hI
      obtain ⟨e, s1, h1, h2⟩ := hr b s hI
      cases e with
      | normal =>
        obtain ⟨b', h3, h4⟩ := h2
        obtain ⟨e2, s2, h5, h6⟩ := ih (μ b') (by omega) b' s1 rfl h3
        exact ⟨e2, s2, .more h1 h5, h6⟩
      | exit i => exact ⟨_, s1, .out h1 (by simp), h2⟩
      | ret => exact ⟨_, s1, .out h1 (by simp), h2⟩
  obtain ⟨e, s', h1, h2⟩ := key _ b0 st rfl h0
  exact ⟨e, s', .loop h1, h2⟩

/-- A loop that counts up to n. -/
theorem W_count {x : IC} {st : St} {Q : IExit → St → Prop} (n : Nat) (I : Nat → St → Prop) (h0 : I 0 st) (hr : ∀ i s, I i s → W P C x s (fun e s' => match e with | .normal => i < n ∧ I (i + 1) s' | e => Q e s')) : W P C (.loop x) st Q :=
  W_meas I (fun i => n - i) 0 h0 fun i s hI => (hr i s hI).mono fun e s' h => by
    cases e with
    | normal => exact ⟨i + 1, h.2, by omega⟩
    | exit _ => exact h
    | ret => exact h

end

/-- A call that gives these values, and leaves all that was there. -/
def Ret (H : Heap) (vs : List Value) (r : List Value) (H' : Heap) : Prop := r = vs ∧ Gent H H'
def Same (H : Heap) (vs : List Value) (r : List Value) (H' : Heap) : Prop := r = vs ∧ H = H'

theorem Gent.add {H H' : Heap} (h : Gent H H') (B : Blk) : Gent H (H'.add B) := h.trans (gent_add' H' B)

@[simp] theorem wrap64 {x : Int} (h : -9223372036854775808 ≤ x ∧ x < 9223372036854775808) : IntKind.i64.wrap x = x := by
  unfold IntKind.wrap
  simp [IntKind.bits, IntKind.signed]
  omega

theorem all_succ {α : Type} {xs : List α} {p : α → Prop} {i : Nat} (hi : i < xs.length) (h : ∀ y ∈ xs.take i, p y) (hx : p xs[i]) : ∀ y ∈ xs.take (i + 1), p y := by
  intro y hy
  rw [List.take_succ_eq_append_getElem hi, List.mem_append] at hy
  rcases hy with hy | hy
  · exact h y hy
  · simp at hy; subst hy; exact hx
theorem all_end {α : Type} {xs : List α} {p : α → Prop} {i : Nat} (hi : ¬ i < xs.length) (h : ∀ y ∈ xs.take i, p y) : ∀ y ∈ xs, p y := by
  rw [List.take_of_length_le (by omega)] at h; exact h

theorem rd_gent {H H' : Heap} {p : Value} {n : Nat} {cs : List Value} (h : H.rd p n = some cs) (hg : Gent H H') : H'.rd p n = some cs := by
  unfold Heap.rd at h ⊢
  split at h
  · rename_i b o
    cases hb : H.get b with
    | none => rw [hb] at h; simp at h
    | some B => rw [hb] at h; simp only [hg.get hb]; exact h
  · simp at h
theorem rd_new (H : Heap) (cs : List Value) (s : Nat) (b : Bool) : Heap.rd (H.add ⟨cs, s, b⟩) (.pointer (some ⟨H.length, 0, none⟩)) cs.length = some cs := by
  simp only [Heap.rd, get_add]
  simp

@[simp] theorem eq5 (a b c d e a' b' c' d' e' : Int) : ibin .eql (.st [(0, false), (1, false), (2, false), (3, false), (4, false)]) (.agg #[.int .i64 a, .int .i64 b, .int .i64 c, .int .i64 d, .int .i64 e]) (.agg #[.int .i64 a', .int .i64 b', .int .i64 c', .int .i64 d', .int .i64 e']) =
    some (.bool (decide (a = a' ∧ b = b' ∧ c = c' ∧ d = d' ∧ e = e'))) := by
  show Option.map _ (ieq _ _ _) = _
  simp only [ieq, eqCells]
  by_cases h1 : a = a' <;> by_cases h2 : b = b' <;> by_cases h3 : c = c' <;> by_cases h4 : d = d' <;> by_cases h5 : e = e' <;> simp [h1, h2, h3, h4, h5, eqCells]
@[simp] theorem eq3 (a b c a' b' c' : Int) : ibin .eql (.st [(0, false), (1, false), (2, false)]) (.agg #[.int .i64 a, .int .i64 b, .int .i64 c]) (.agg #[.int .i64 a', .int .i64 b', .int .i64 c']) = some (.bool (decide (a = a' ∧ b = b' ∧ c = c'))) := by
  show Option.map _ (ieq _ _ _) = _
  simp only [ieq, eqCells]
  by_cases h1 : a = a' <;> by_cases h2 : b = b' <;> by_cases h3 : c = c' <;> simp [h1, h2, h3, eqCells]
@[simp] theorem ne3 (a b c a' b' c' : Int) : ibin .neq (.st [(0, false), (1, false), (2, false)]) (.agg #[.int .i64 a, .int .i64 b, .int .i64 c]) (.agg #[.int .i64 a', .int .i64 b', .int .i64 c']) = some (.bool (!decide (a = a' ∧ b = b' ∧ c = c'))) := by
  show Option.map _ (ieq _ _ _) = _
  simp only [ieq, eqCells]
  by_cases h1 : a = a' <;> by_cases h2 : b = b' <;> by_cases h3 : c = c' <;> simp [h1, h2, h3, eqCells]
@[simp] theorem eq2 (a b a' b' : Int) : ibin .eql (.st [(0, false), (1, false)]) (.agg #[.int .i64 a, .int .i64 b]) (.agg #[.int .i64 a', .int .i64 b']) = some (.bool (decide (a = a' ∧ b = b'))) := by
  show Option.map _ (ieq _ _ _) = _
  simp only [ieq, eqCells]
  by_cases h1 : a = a' <;> by_cases h2 : b = b' <;> simp [h1, h2, eqCells]
@[simp] theorem ne2 (a b a' b' : Int) : ibin .neq (.st [(0, false), (1, false)]) (.agg #[.int .i64 a, .int .i64 b]) (.agg #[.int .i64 a', .int .i64 b']) = some (.bool (!decide (a = a' ∧ b = b'))) := by
  show Option.map _ (ieq _ _ _) = _
  simp only [ieq, eqCells]
  by_cases h1 : a = a' <;> by_cases h2 : b = b' <;> simp [h1, h2, eqCells]

theorem Rd.str {H : Heap} (s : ByteArray) : Rd (H.add ⟨s.data.toList.map fun b => .int .u8 b.toNat, 1, false⟩) (.slice (some ⟨H.length, 0, none⟩) s.size s.size) s.data.toList := by
  have e : ∀ l : List UInt8, l.map (fun b : UInt8 => (Value.int .u8 b.toNat)) = l.flatMap fl := by
    intro l
    induction l with
    | nil => rfl
    | cons x l ih => rw [List.map_cons, List.flatMap_cons, ih]; rfl
  exact ⟨[H.length], .inr ⟨H.length, s.size, [], s.data.toList.flatMap fl, [], false, List.replicate s.data.toList.length [], rfl, Nat.le_refl _, by rw [get_add, e]; simp [sz, fz], flat_encs _ _ _, by simp, by simp⟩⟩

end Go.Proofs.Ytpnbojehfngigaa.IM

/- Two slices of one's own, side by side. -/
namespace Go.Proofs.Ytpnbojehfngigaa.IM
open Go Enc Flat
set_option linter.unusedVariables false
set_option linter.unusedSimpArgs false

@[simp] theorem lenS_sl (a : Option Addr) (n c : Nat) : lenS (.slice a n c) = n := rfl

section
variable {α β : Type} [Flat α] [Flat β] {H H' H1 H2 : Heap} {v u : Value} {xs : List α} {ys : List β} {b0 b1 : Nat}

def Own2 (b0 : Nat) (H : Heap) (v : Value) (xs : List α) (u : Value) (ys : List β) : Prop := ∃ F1 F2, Sl true H v xs F1 ∧ Sl true H u ys F2 ∧ (F1 ++ F2).Nodup ∧ ∀ b ∈ F1 ++ F2, b0 ≤ b

theorem Own2.mk (h : Own b0 H v xs) (hb : b0 ≤ H.length) (hg : Gent H H1) (k : Own H.length H1 u ys) : Own2 b0 H1 v xs u ys := by
  obtain ⟨F1, h1, h2, h3⟩ := h
  obtain ⟨F2, k1, k2, k3⟩ := k
  refine ⟨F1, F2, h1.gent hg, k1, ?_, ?_⟩
  · rw [List.nodup_append]
    refine ⟨h2, k2, fun a ha b hb e => ?_⟩
    subst e
    obtain ⟨B, hB⟩ := h1.alive a ha
    have := Heap.get_lt hB
    have := k3 a hb
    omega
  · intro b hm
    rcases List.mem_append.1 hm with hm | hm
    · exact h3 b hm
    · have := k3 b hm; omega

theorem Own2.nil : Own2 b0 H (.slice none 0 0) ([] : List α) (.slice none 0 0) ([] : List β) := ⟨[], [], .nil, .nil, by simp, by simp⟩

theorem Own2.fst (h : Own2 b0 H v xs u ys) : Own b0 H v xs := by
  obtain ⟨F1, F2, h1, h2, h3, h4⟩ := h
  exact ⟨F1, h1, (List.nodup_append.1 h3).1, fun b hb => h4 b (by simp [hb])⟩
theorem Own2.snd (h : Own2 b0 H v xs u ys) : Own b0 H u ys := by
  obtain ⟨F1, F2, h1, h2, h3, h4⟩ := h
  exact ⟨F2, h2, (List.nodup_append.1 h3).2.1, fun b hb => h4 b (by simp [hb])⟩
theorem Own2.gent (h : Own2 b0 H v xs u ys) (hg : Gent H H') : Own2 b0 H' v xs u ys := by
  obtain ⟨F1, F2, h1, h2, h3, h4⟩ := h
  exact ⟨F1, F2, h1.gent hg, h2.gent hg, h3, h4⟩
theorem Own2.le (h : Own2 b0 H v xs u ys) (hb : b1 ≤ b0) : Own2 b1 H v xs u ys := by
  obtain ⟨F1, F2, h1, h2, h3, h4⟩ := h
  exact ⟨F1, F2, h1, h2, h3, fun b hm => by have := h4 b hm; omega⟩

theorem flat_inner {γ : Type} [Flat γ] {m : Bool} {H : Heap} {v : Value} {xs : List γ} {F : List Nat} (h : Sl m H v xs F) : F.tail = [] := by
  rcases h with ⟨_, _, rfl⟩ | ⟨b, c, pre, ds, post, rw, Gs, _, _, _, h3, rfl, _⟩
  · rfl
  · simpa using (encs_flat h3).2

theorem Own2.wr1 (h : Own2 b0 H v xs u ys) {i : Nat} (hi : i < xs.length) {off : Nat} {us : List Value} (ho : off + us.length ≤ fz α) {y : α} (hy : put (fl xs[i]) off us = fl y) :
    ∃ H', H.wr (eP v i off (sz α)) us = some H' ∧ Own2 b0 H' v (xs.set i y) u ys ∧ Keep b0 H H' := by
  obtain ⟨F1, F2, h1, h2, h3, h4⟩ := h
  obtain ⟨b, L, R, cs, Fi, rfl, ⟨rfl, rfl⟩, g3⟩ := h1.wr (nodup_head (List.nodup_append.1 h3).1) hi
  obtain ⟨H', q1, q2, q3, q4⟩ := g3 off us ho
  refine ⟨H', q1, ⟨_, F2, q4 y [] ⟨hy, rfl⟩, h2.frame fun b' hb' => q3 b' ?_, h3, h4⟩, by omega, fun b' hb => q3 b' ?_⟩
  · rintro rfl
    exact (List.nodup_append.1 h3).2.2 b' (by simp) b' hb' rfl
  · rintro rfl
    have := h4 b' (by simp)
    omega

theorem Own2.app2 (h : Own2 b0 H v xs u ys) (hb : b0 ≤ H.length) (zs : List β) {bytes : Nat} (hy : 0 < bytes ∧ bytes ≤ 256) (hl : ys.length + zs.length ≤ 2 ^ 38) :
    ∃ u' H', H.app u (sz β) bytes zs.length (zs.flatMap fl) = some (u', H') ∧ Own2 b0 H' v xs u' (ys ++ zs) ∧ Keep b0 H H' := by
  obtain ⟨F1, F2, h1, h2, h3, h4⟩ := h
  obtain ⟨n1, n2, n3⟩ := List.nodup_append.1 h3
  by_cases hk : zs = []
  · subst hk
    refine ⟨u, H, ?_, by simpa using ⟨F1, F2, h1, h2, h3, h4⟩, Keep.refl _ _⟩
    unfold Heap.app
    rcases h2 with ⟨rfl, _⟩ | ⟨b, c, pre, ds, post, rw, Gs, rfl, _⟩ <;> simp
  · obtain ⟨u', H', g1, g2, g3, g4⟩ := h2.app (nodup_head n2) (flat_encs true H zs) (by rw [flatten_rep]; simp) hk hy hl
    rw [flatten_rep, List.append_nil, flat_inner h2] at g2
    refine ⟨u', H', g1, ⟨F1, _, h1.frame fun b hbm => ?_, g2, ?_, ?_⟩, g3, fun b hbb => g4 b (by omega) fun e => ?_⟩
    · obtain ⟨B, hB⟩ := h1.alive b hbm
      refine g4 b (Heap.get_lt hB) fun e => ?_
      exact n3 b hbm b (List.mem_of_mem_head? e) rfl
    · rw [List.nodup_append]
      refine ⟨n1, by simp, fun a ha b hbm e => ?_⟩
      simp at hbm
      obtain ⟨B, hB⟩ := h1.alive a ha
      have := Heap.get_lt hB
      omega
    · intro b hbm
      rcases List.mem_append.1 hbm with hbm | hbm
      · exact h4 b (by simp [hbm])
      · simp at hbm; omega
    · have := h4 b (by simp [List.mem_of_mem_head? e])
      omega

end
end Go.Proofs.Ytpnbojehfngigaa.IM
