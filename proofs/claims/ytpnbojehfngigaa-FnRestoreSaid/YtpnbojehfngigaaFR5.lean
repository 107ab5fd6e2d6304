/- The law FnRestore returns true for every input, and its input reads behind the call as it did. No condition. -/
import Derived.Test.YtpnbojehfngigaaFR4
import Derived.Test.YtpnbojehfngigaaRows
import Derived.WalkKit
import Derived.ProofKit
import Derived.OpenShut
import Derived.ShutString
import Derived.ChangeOld
import Derived.Below

/- From the ideal machine to the row: a law of one argument, a slice of bytes. -/
namespace Go.Proofs.Ytpnbojehfngigaa.IM
open Go Go.Proofs Enc Flat Go.ChangeShapes Go.WideShapes Go.ChangeAt Go.RowKit
set_option linter.unusedVariables false
set_option linter.unusedSimpArgs false

theorem rowAt_le {P : Program} {fits : TypeId → Bool} : ∀ {d : Nat} {row : TypeId} {cells off n : Nat}, rowAt P fits d row (cells / P.cellsOf row) off n = true → off ≤ cells
  | 0, row, cells, off, n, h => by simp [rowAt] at h
  | d + 1, row, cells, off, n, h => by
    unfold rowAt at h
    simp only [] at h
    split at h
    · simp at h
    · rename_i hs
      have h0 : 0 < P.cellsOf row := by omega
      have h1 : P.cellsOf row * (cells / P.cellsOf row) ≤ cells := Nat.mul_div_le _ _
      have h2 := Nat.div_add_mod off (P.cellsOf row)
      have h3 := Nat.mod_lt off h0
      simp only [Bool.or_eq_true, Bool.and_eq_true, beq_iff_eq, decide_eq_true_eq] at h
      rcases h with ⟨⟨a, b⟩, _⟩ | ⟨a, _⟩
      · have := Nat.mul_le_mul_left (P.cellsOf row) (show off / P.cellsOf row ≤ cells / P.cellsOf row by omega)
        omega
      · have := Nat.mul_le_mul_left (P.cellsOf row) (show off / P.cellsOf row + 1 ≤ cells / P.cellsOf row by omega)
        rw [Nat.mul_add] at this
        omega

theorem liesAt_le {P : Program} {d : Nat} {row u : TypeId} {cells off n : Nat} (hu : ∀ m u', P.underlying u ≠ some (.array m u')) (h : liesAt P d row (cells / P.cellsOf row) off u n = true) : off ≤ cells := by
  cases d with
  | zero => simp [liesAt] at h
  | succ d =>
    unfold liesAt at h
    simp only [Bool.or_eq_true] at h
    rcases h with h | h
    · exact rowAt_le h
    · simp at h

theorem bytes_map : ∀ xs : List UInt8, xs.flatMap fl = xs.map fun b => Value.int .u8 b.toNat
  | [] => rfl
  | b :: t => by rw [List.flatMap_cons, bytes_map t]; rfl

/-- A slice of bytes that is handed in, as an ideal one. -/
theorem bytesIn {P : Program} {w : World} {t e : TypeId} {a : Option Addr} {len cap : Nat} {zs : List Int} (ht : P.underlying t = some (.slice e)) (he : P.underlying e = some (.int .u8))
    (hv : Value.okWide P w .any 0 t (.slice a len cap))
    (h : (a = none ∧ len = 0 ∧ cap = 0 ∧ zs = []) ∨ ∃ x, a = some x ∧ len ≤ cap ∧ cap ≤ maxLen ∧ zs.length = cap ∧ (∀ i, i < zs.length → w.cell? (x.add i) = some (.int .u8 (zs.getD i 0))) ∧ ∀ n ∈ zs, (Lit.int .u8 n).wf = true) :
    ∃ (ι : Inj) (H : Heap) (v : Value) (xs : List UInt8), Sim ι H w ∧ V1Rel ι v (.slice a len cap) ∧ Rd H v xs ∧ ∀ b, ¬ H.live b := by
  rcases h with ⟨rfl, rfl, rfl, rfl⟩ | ⟨x, rfl, hl, hm, hz, hc, hw⟩
  · exact ⟨fun _ => none, [], .slice none 0 0, [], ⟨by simp, by simp, by simp⟩, .cell .snil, .nil, by simp [Heap.live, Heap.get]⟩
  · simp only [Value.okWide, ht, Cell.okWide, Cell.ok] at hv
    obtain ⟨_, _, _, hsp, row, cells, hsh, hli⟩ := hv
    obtain ⟨xb, xo, xs0⟩ := x
    simp only at hsp hsh hli
    subst hsp
    obtain ⟨C, ff, hC, hCs⟩ : ∃ C ff, w.heap[xb]? = some (.cells C row ff) ∧ C.size = cells := by
      unfold World.shape? at hsh
      split at hsh
      · rename_i C el ff hq
        simp only [Option.some.injEq, Prod.mk.injEq] at hsh
        obtain ⟨rfl, rfl⟩ := hsh
        exact ⟨C, ff, hq, rfl⟩
      · simp at hsh
    have hoff : xo ≤ C.size := by rw [hCs]; exact liesAt_le (by rw [he]; simp) hli
    have hcell : ∀ i, i < cap → C[xo + i]? = some (.int .u8 (zs.getD i 0)) := by
      intro i hi
      have := hc i (by omega)
      by_cases hi0 : i = 0
      · subst hi0; simpa [World.cell?, Addr.add, hC] using this
      · simpa [World.cell?, Addr.add, hC, hi0] using this
    have hfit : xo + cap ≤ C.size := by
      by_cases h0 : cap = 0
      · omega
      · have := hcell (cap - 1) (by omega)
        have := (Array.getElem?_eq_some_iff.1 this).1
        omega
    obtain ⟨xs, hxs⟩ : ∃ xs : List UInt8, xs = (zs.take len).map fun n => UInt8.ofNat n.toNat := ⟨_, rfl⟩
    have hlen : xs.length = len := by rw [hxs]; simp; omega
    have hfl : ∀ i c, (xs.flatMap fl)[i]? = some c → i < len ∧ c = .int .u8 (zs.getD i 0) := by
      intro i c h
      rw [bytes_map, hxs, List.map_map, List.getElem?_map] at h
      cases hq : (zs.take len)[i]? with
      | none => rw [hq] at h; simp at h
      | some n =>
        rw [hq] at h
        simp only [Option.map_some, Function.comp, Option.some.injEq] at h
        rw [List.getElem?_take] at hq
        split at hq
        · rename_i hi
          have hn := hw n (List.mem_of_getElem? hq)
          refine ⟨hi, ?_⟩
          rw [← h, List.getD_eq_getElem?_getD, hq]
          have hn' : (0 : Int) ≤ n ∧ n ≤ 255 := by
            simp only [Lit.wf, Bool.and_eq_true, decide_eq_true_eq] at hn
            exact hn
          simp only [Option.getD_some, Value.int.injEq, true_and, UInt8.toNat_ofNat']
          omega
        · simp at hq
    have hfll : (xs.flatMap fl).length = len := by
      rw [← hlen]
      have := encs_len (flat_encs false [] xs)
      simpa [sz, fz] using this.1
    have hbl : xb < w.heap.size := (Array.getElem?_eq_some_iff.1 hC).1
    refine ⟨fun b => if b = 0 then some ⟨xb, xo, C.size, 1⟩ else none, [some ⟨xs.flatMap fl, 1, false⟩], .slice (some ⟨0, 0, none⟩) xs.length xs.length, xs, ⟨?_, ?_, ?_⟩, ?_, ?_, ?_⟩
    · intro b L hb
      split at hb
      · simp only [Option.some.injEq] at hb; subst hb; subst b
        exact ⟨by simp, hbl⟩
      · simp at hb
    · intro b L B hb hB
      split at hb
      · simp only [Option.some.injEq] at hb; subst hb; subst b
        simp [Heap.get] at hB
        subst hB
        refine ⟨⟨C, row, ff, hC, rfl, by simp, fun i c hi => ?_⟩, ?_, rfl, by simp⟩
        · obtain ⟨h1, rfl⟩ := hfl i c hi
          exact ⟨_, hcell i (by omega), .int _ _⟩
        · simp only [hfll]; omega
      · simp at hb
    · intro b b' L L' B B' hb hb' _ _ _
      split at hb
      · split at hb'
        · omega
        · simp at hb'
      · simp at hb
    · exact .cell (hlen ▸ .sl (L := ⟨xb, xo, C.size, 1⟩) (by simp) (Nat.le_refl _) (by omega) (.inr rfl) (by simp; omega))
    · refine ⟨_, .inr ⟨0, xs.length, [], xs.flatMap fl, [], false, List.replicate xs.length [], rfl, Nat.le_refl _, by simp [Heap.get, sz, fz], flat_encs false _ xs, rfl, by simp⟩⟩
    · rintro b ⟨B, hB, hr⟩
      cases b with
      | zero => simp [Heap.get] at hB; subst hB; simp at hr
      | succ b => simp [Heap.get] at hB

/-- A law of one slice of bytes that returns true in the ideal machine. -/
theorem law_calls {P : Program} {f : Nat} {t e : TypeId} (ht : P.underlying t = some (.slice e)) (he : P.underlying e = some (.int .u8))
    (hlaw : ∀ (bv : Value) (code : List UInt8) (H : Heap), Rd H bv code → ICall P f [bv] H (Ret H [.bool true]))
    {w : World} {a : Option Addr} {len cap : Nat} {zs : List Int} (hv : Value.okWide P w .any 0 t (.slice a len cap))
    (h : (a = none ∧ len = 0 ∧ cap = 0 ∧ zs = []) ∨ ∃ x, a = some x ∧ len ≤ cap ∧ cap ≤ maxLen ∧ zs.length = cap ∧ (∀ i, i < zs.length → w.cell? (x.add i) = some (.int .u8 (zs.getD i 0))) ∧ ∀ n ∈ zs, (Lit.int .u8 n).wf = true) :
    Calls P f #[.slice a len cap] w fun e w' => e = .returned (.bool true) ∧ Below w.heap.size w w' := by
  obtain ⟨ι, H, v, xs, hs, hr, hrd, hd⟩ := bytesIn ht he hv h
  obtain ⟨res, H', ⟨_, hc⟩, rfl, _⟩ := hlaw v xs H hrd
  refine (hc ι w [_] hs (.cons hr .nil)).mono ?_
  rintro e w' ⟨v, ι', rfl, hvr, _, hx⟩
  refine ⟨?_, hx.os, hx.tape, hx.output, hx.size, fun k hk => hx.keep k hk (fun b L _ _ hb => (hd b hb).elim) (fun h => h)⟩
  cases hvr with
  | one h => cases h with
    | cell h => cases h with
      | bool => rfl
      | ptr h => cases h

end Go.Proofs.Ytpnbojehfngigaa.IM

/- FnRestore: the row. -/
namespace Go.Proofs.Ytpnbojehfngigaa.FnRestoreRow
open Go Go.Proofs Go.ChangeShapes Go.WideShapes Go.ChangeAt Go.RowKit
set_option linter.unusedVariables false

theorem own : ownKnob Try.prog.godebug = none := by kernel_rfl
theorem laidOut : laidOutB Try.prog = true := by kernel_rfl
def IsRow (k : IntKind) (w : World) (a : Option Addr) (len cap : Nat) (zs : List Int) : Prop :=
  (a = none ∧ len = 0 ∧ cap = 0 ∧ zs = []) ∨
  ∃ x, a = some x ∧ len ≤ cap ∧ cap ≤ maxLen ∧ zs.length = cap ∧ (∀ i, i < zs.length → w.cell? (x.add i) = some (.int k (zs.getD i 0))) ∧ ∀ n ∈ zs, (Lit.int k n).wf = true

set_option maxRecDepth 100000 in
theorem lifted (os : Os) (started : os.Started) (H : Type) (enc : TypeId × Value → H) :
    ReturnsInHanded {} Try.checked os 3 .any (Rows.fnRestoreSpec.pre6 enc Try.prog Try.f3 Rows.fnRestoreRow.domain false) (Rows.fnRestoreSpec.post enc Try.prog Try.f3 false true false false) := by
  refine returnsInHanded_of_change (C := Try.checked) own started (by kernel_rfl) Try.func3
    (ChangeSpec.witness6 (enc := enc) (C := Try.checked) false ⟨#[], #[.slice none 0 0], []⟩ 8 (by kernel_rfl) (by kernel_rfl) (by kernel_rfl) (by kernel_rfl)) ?_
  intro W base args ds gs before hval0 hW hcnd _
  have hval : ∀ (j : Nat) t v, Try.f3.params[j]? = some t → args[j]? = some v → Value.okWide Try.prog W .any base t v := hval0
  have hW' := hW
  obtain ⟨p, q, hA0, hV, rfl, hfz, hnd⟩ := hW
  have hA : DataW.TrodAll enc Try.prog W 0 (fun _ => true) true Try.f3.params.toList args.toList ds p := hA0
  rw [Try.params3] at hA hval
  obtain ⟨v0, vs0, d0, ds0, p0, q0, hargs, rfl, rfl, h0, r0⟩ := trodAll_cons hA
  obtain ⟨rfl, rfl, rfl⟩ := trodAll_nil r0
  obtain rfl : args = #[v0] := by cases args; simp_all
  obtain ⟨rfl, rfl⟩ := trodVars_none hV
  have hv0 := hval 0 22 v0 rfl rfl
  obtain ⟨a0, len0, cap0, rfl⟩ := okWide_slice Try.underlying22 hv0
  have k0 := h0
  have lt0 : ∀ x ∈ p0, x.block < W.heap.size := by obtain ⟨m, hm⟩ := k0; exact DataW.trod_lt m _ _ _ hm
  obtain ⟨z0, w0⟩ : ∃ zs, IsRow .u8 W a0 len0 cap0 zs := by
    obtain ⟨fuel, hf⟩ := h0
    rcases open_ints Try.underlying22 Try.underlying5 (by kernel_rfl) hf with ⟨hcs, _⟩ | ⟨x, l, c, zs, hcs, _, hl, hm, hz, _, hcell, hwz⟩
    · simp [Value.cells] at hcs
      obtain ⟨rfl, rfl, rfl⟩ := hcs
      exact ⟨[], .inl ⟨rfl, rfl, rfl, rfl⟩⟩
    · simp [Value.cells] at hcs
      obtain ⟨rfl, rfl, rfl⟩ := hcs
      exact ⟨zs, .inr ⟨_, rfl, hl, hm, by simpa using hz, hcell, hwz⟩⟩
  clear hA0 hval0
  refine (IM.law_calls Try.underlying22 Try.underlying5 (fun bv code H hrd => IM.fnRestore_ok hrd) hv0 w0).mono fun e W' ⟨he, bel⟩ => ?_
  subst he
  exact ⟨_, rfl, _, _, _, [], _, [], hW', trodAll_mk1 (shut_bool Try.underlying4 _), (trodAll_cons_mk (Below.trod laidOut (by kernel_rfl) (of_decide_eq_true (by kernel_rfl)) k0 bel lt0) trodAll_mk0), rfl, bel.frame _, fun h => by cases h⟩

theorem over : Rows.fnRestoreRow.holds Try.pinned (OpenSpec.ofChange Rows.fnRestoreSpec) :=
  OpenClaim.holds_of_wide 3 Try.f3 rfl rfl rfl rfl rfl rfl rfl ⟨rfl, rfl, rfl, rfl, rfl⟩ rfl rfl rfl rfl rfl (by kernel_rfl) Try.func3 (by kernel_rfl)
    (of_decide_eq_true (by kernel_rfl)) (by unfold Func.isWrapper; first | (rw [if_pos (by decide +kernel)]; kernel_rfl) | (rw [if_neg (by decide +kernel)]; exact ⟨rfl, rfl⟩))
    (fun os started H enc _ => lifted os started H enc)
end Go.Proofs.Ytpnbojehfngigaa.FnRestoreRow
namespace Go.Proofs.Ytpnbojehfngigaa

/-- FnRestore holds for every input. -/
theorem fnRestore_holds : Rows.FnRestoreSaid := FnRestoreRow.over
#print axioms fnRestore_holds
end Go.Proofs.Ytpnbojehfngigaa
