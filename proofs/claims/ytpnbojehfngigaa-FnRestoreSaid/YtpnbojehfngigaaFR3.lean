/- The law FnRestore returns true for every input, and its input reads behind the call as it did. No condition. -/
import Derived.Test.YtpnbojehfngigaaFR2
import Derived.Test.YtpnbojehfngigaaProg
import Derived.KernelRfl

/- The data of the program, and what the functions on one process compute, in plain Lean. -/
namespace Go.Proofs.Ytpnbojehfngigaa.IM
open Go Enc Flat
set_option linter.unusedVariables false
set_option linter.unusedSimpArgs false

structure Ins where
  op : Int
  r : Int
  a : Int
  b : Int
  n : Int
  deriving DecidableEq, Inhabited

structure Event where
  kind : Int
  peer : Int
  v : Int
  deriving DecidableEq, Inhabited

structure State where
  pc : Int
  regs : List Int
  out : List Int
  code : Int
  deriving DecidableEq, Inhabited

structure Kept where
  n : Int
  s : State
  deriving DecidableEq, Inhabited

instance : Flat Ins := ⟨5, true, fun x => [.int .i64 x.op, .int .i64 x.r, .int .i64 x.a, .int .i64 x.b, .int .i64 x.n], by omega, by simp, fun _ => rfl⟩
instance : Flat Event := ⟨3, true, fun x => [.int .i64 x.kind, .int .i64 x.peer, .int .i64 x.v], by omega, by simp, fun _ => rfl⟩

instance : Enc State where
  sz := 4
  ag := true
  enc m H s cs F := ∃ r o F1 F2, cs = [.int .i64 s.pc, r, o, .int .i64 s.code] ∧ Sl m H r s.regs F1 ∧ Sl m H o s.out F2 ∧ F = F1 ++ F2
  pos := by omega
  one := by simp
  len h := by obtain ⟨r, o, F1, F2, rfl, _⟩ := h; rfl
  frame h hf := by
    obtain ⟨r, o, F1, F2, rfl, h1, h2, rfl⟩ := h
    exact ⟨r, o, F1, F2, rfl, h1.frame fun b hb => hf b (by simp [hb]), h2.frame fun b hb => hf b (by simp [hb]), rfl⟩
  alive h b hb := by
    obtain ⟨r, o, F1, F2, rfl, h1, h2, rfl⟩ := h
    rcases List.mem_append.1 hb with hb | hb
    · exact h1.alive b hb
    · exact h2.alive b hb
  weak h := by
    obtain ⟨r, o, F1, F2, rfl, h1, h2, rfl⟩ := h
    exact ⟨r, o, F1, F2, rfl, h1.weak, h2.weak, rfl⟩

instance : Enc Kept where
  sz := 5
  ag := true
  enc m H k cs F := ∃ cs', cs = .int .i64 k.n :: cs' ∧ enc m H k.s cs' F
  pos := by omega
  one := by simp
  len h := by obtain ⟨cs', rfl, h⟩ := h; simp [Enc.len h, sz]
  frame h hf := by obtain ⟨cs', rfl, h⟩ := h; exact ⟨cs', rfl, Enc.frame h hf⟩
  alive h b hb := by obtain ⟨cs', rfl, h⟩ := h; exact Enc.alive h b hb
  weak h := by obtain ⟨cs', rfl, h⟩ := h; exact ⟨cs', rfl, Enc.weak h⟩

/-- Cells that may be read as a value. -/
def RdC {α : Type} [Enc α] (H : Heap) (cs : List Value) (x : α) : Prop := ∃ F, enc false H x cs F
/-- Cells of a value that is one's own, all of it laid from b0 on. -/
def OwnC {α : Type} [Enc α] (b0 : Nat) (H : Heap) (cs : List Value) (x : α) : Prop := ∃ F, enc true H x cs F ∧ F.Nodup ∧ ∀ b ∈ F, b0 ≤ b

section
variable {α : Type} [Enc α] {H H' : Heap} {cs : List Value} {x : α} {b0 b1 : Nat}
theorem RdC.gent (h : RdC H cs x) (hg : Gent H H') : RdC H' cs x := by obtain ⟨F, h⟩ := h; exact ⟨F, enc_gent h hg⟩
theorem OwnC.gent (h : OwnC b0 H cs x) (hg : Gent H H') : OwnC b0 H' cs x := by obtain ⟨F, h, k⟩ := h; exact ⟨F, enc_gent h hg, k⟩
theorem OwnC.rd (h : OwnC b0 H cs x) : RdC H cs x := by obtain ⟨F, h, _⟩ := h; exact ⟨F, Enc.weak h⟩
theorem OwnC.le (h : OwnC b0 H cs x) (hb : b1 ≤ b0) : OwnC b1 H cs x := by obtain ⟨F, h, k1, k2⟩ := h; exact ⟨F, h, k1, fun b hb => by have := k2 b hb; omega⟩
end

theorem RdC.state {H : Heap} {cs : List Value} {s : State} (h : RdC H cs s) : ∃ r o, cs = [.int .i64 s.pc, r, o, .int .i64 s.code] ∧ Rd H r s.regs ∧ Rd H o s.out := by
  obtain ⟨F, r, o, F1, F2, rfl, h1, h2, rfl⟩ := h
  exact ⟨r, o, rfl, ⟨F1, h1⟩, ⟨F2, h2⟩⟩
theorem RdC.mkState {H : Heap} {r o : Value} {s : State} (h1 : Rd H r s.regs) (h2 : Rd H o s.out) : RdC H [.int .i64 s.pc, r, o, .int .i64 s.code] s := by
  obtain ⟨F1, h1⟩ := h1
  obtain ⟨F2, h2⟩ := h2
  exact ⟨_, r, o, F1, F2, rfl, h1, h2, rfl⟩
theorem RdC.kept {H : Heap} {cs : List Value} {k : Kept} (h : RdC H cs k) : ∃ r o, cs = [.int .i64 k.n, .int .i64 k.s.pc, r, o, .int .i64 k.s.code] ∧ Rd H r k.s.regs ∧ Rd H o k.s.out := by
  obtain ⟨F, cs', rfl, h⟩ := h
  obtain ⟨r, o, rfl, h1, h2⟩ := RdC.state ⟨F, h⟩
  exact ⟨r, o, rfl, h1, h2⟩

/-- What lies at an element of a slice. -/
theorem Rd.elem {α : Type} [Enc α] {H : Heap} {v : Value} {xs : List α} (h : Rd H v xs) {i : Nat} (hi : i < xs.length) : ∃ cs, RdC H cs xs[i] ∧ ∀ off n, off + n ≤ sz α → H.rd (eP v i off (sz α)) n = some ((cs.drop off).take n) := by
  obtain ⟨F, h⟩ := h
  obtain ⟨cs, Fi, h1, _, h3⟩ := h.rd hi
  exact ⟨cs, ⟨Fi, h1⟩, h3⟩

/-! ### programs -/

def inB (x lo hi : Int) : Bool := decide (lo ≤ x ∧ x ≤ hi)
def numB (x : Int) : Bool := decide (-1000000000 ≤ x ∧ x ≤ 1000000000)

def insOk (x : Ins) (places procs : Int) : Bool :=
  inB x.r 0 3 && inB x.a 0 3 && inB x.b 0 3 && inB procs 1 4 &&
  (if x.op = 1 then numB x.n && x.a == 0 && x.b == 0
   else if x.op = 2 ∨ x.op = 3 ∨ x.op = 4 ∨ x.op = 5 then x.n == 0
   else if x.op = 6 then inB x.n 0 (procs - 1) && x.r == 0 && x.b == 0
   else if x.op = 7 then (inB x.n 0 (procs - 1) || x.n == 9) && x.a == 0 && x.b == 0
   else if x.op = 8 then x.r == 0 && x.b == 0 && x.n == 0
   else if x.op = 9 then decide (0 ≤ x.n ∧ x.n < places) && x.r == 0 && x.a == 0 && x.b == 0
   else if x.op = 10 then decide (0 ≤ x.n ∧ x.n < places) && x.r == 0 && x.b == 0
   else if x.op = 11 then x.r == 0 && x.a == 0 && x.b == 0 && x.n == 0
   else false)

def progOk (l : List Ins) (procs : Int) : Bool := l.all (fun x => insOk x l.length procs) && inB l.length 1 30 && inB procs 1 4

/-! ### one process -/

def getI (l : List Int) (i : Int) : Int := l.getD i.toNat 0
def insAt (l : List Ins) (i : Int) : Ins := l.getD i.toNat default

def State.zero : State := ⟨0, [], [], 0⟩
def State.start : State := ⟨0, [0, 0, 0, 0], [], 0⟩
def Event.zero : Event := ⟨0, 0, 0⟩

def stateOk (l : List Ins) (s : State) : Bool :=
  s.regs.length == 4 && s.regs.all numB && inB s.code 0 2 && inB s.pc 0 (l.length - 1) && decide (s.out.length ≤ 60) && s.out.all numB

/-- Next, of what is right and runs. -/
def nextE (l : List Ins) (s : State) : Event :=
  let x := insAt l s.pc
  if x.op = 6 then ⟨2, x.n, getI s.regs x.a⟩
  else if x.op = 7 then ⟨3, x.n, 0⟩
  else if x.op = 8 then ⟨4, 0, getI s.regs x.a⟩
  else ⟨1, 0, 0⟩

def comesB (e want : Event) : Bool :=
  if want.kind = 3 ∧ e.kind = 3 then numB e.v && ((e.peer == want.peer && want.peer != 9) || (want.peer == 9 && inB e.peer 0 3))
  else e == want

def goesOn (l : List Ins) (s : State) (pc : Int) : State := if 0 ≤ pc ∧ pc < l.length then { s with pc := pc } else { s with code := 2 }

def reckoned (x : Ins) (r : List Int) : Int :=
  if x.op = 1 then x.n
  else if x.op = 2 then IntKind.i64.wrap (getI r x.a + getI r x.b)
  else if x.op = 3 then IntKind.i64.wrap (getI r x.a - getI r x.b)
  else if x.op = 4 then IntKind.i64.wrap (getI r x.a * getI r x.b)
  else if getI r x.a < getI r x.b then 1 else 0

/-- The state behind an event that may come. -/
def didS (l : List Ins) (s : State) (e : Event) : State :=
  let x := insAt l s.pc
  if x.op = 1 ∨ x.op = 2 ∨ x.op = 3 ∨ x.op = 4 ∨ x.op = 5 then
    if numB (reckoned x s.regs) = true then goesOn l { s with regs := s.regs.set x.r.toNat (reckoned x s.regs) } (s.pc + 1) else { s with code := 2 }
  else if x.op = 7 then goesOn l { s with regs := s.regs.set x.r.toNat e.v } (s.pc + 1)
  else if x.op = 8 then (if 60 ≤ s.out.length then { s with code := 2 } else goesOn l { s with out := s.out ++ [e.v] } (s.pc + 1))
  else if x.op = 9 then goesOn l s x.n
  else if x.op = 10 then goesOn l s (if getI s.regs x.a = 0 then x.n else s.pc + 1)
  else if x.op = 11 then { s with code := 1 }
  else goesOn l s (s.pc + 1)

/-- What next, did and their like ask of a state. -/
structure Fit (l : List Ins) (s : State) : Prop where
  pc : 0 ≤ s.pc ∧ s.pc < l.length
  regs : s.regs.length = 4

structure Prg (l : List Ins) : Prop where
  len : 1 ≤ l.length ∧ l.length ≤ 30
  ins : ∀ x ∈ l, insOk x l.length 4 = true

theorem prog_of {l : List Ins} {n : Int} (h : progOk l n = true) : 1 ≤ l.length ∧ l.length ≤ 30 ∧ (∀ x ∈ l, insOk x l.length n = true) ∧ 1 ≤ n ∧ n ≤ 4 := by
  unfold progOk at h
  simp only [Bool.and_eq_true, List.all_eq_true, inB, decide_eq_true_eq] at h
  exact ⟨by omega, by omega, h.1.1, h.2⟩

theorem Prg.of {l : List Ins} (h : progOk l 4 = true) : Prg l := by
  obtain ⟨h1, h2, h3, _⟩ := prog_of h
  exact ⟨⟨h1, h2⟩, h3⟩

theorem insOk_regs {x : Ins} {p n : Int} (h : insOk x p n = true) : (0 ≤ x.r ∧ x.r ≤ 3) ∧ (0 ≤ x.a ∧ x.a ≤ 3) ∧ (0 ≤ x.b ∧ x.b ≤ 3) := by
  unfold insOk at h
  simp only [Bool.and_eq_true, inB, decide_eq_true_eq] at h
  exact ⟨h.1.1.1.1, h.1.1.1.2, h.1.1.2⟩

theorem insAt_mem {l : List Ins} {i : Int} (h : 0 ≤ i ∧ i < l.length) : insAt l i ∈ l := by
  unfold insAt
  rw [List.getD_eq_getElem?_getD, List.getElem?_eq_getElem (by omega)]
  exact List.getElem_mem _

theorem insAt_get {l : List Ins} {i : Int} {j : Nat} (hj : j < l.length) (h : i = j) : insAt l i = l[j] := by
  subst h
  unfold insAt
  rw [List.getD_eq_getElem?_getD, Int.toNat_natCast, List.getElem?_eq_getElem hj]; rfl

theorem getI_get {l : List Int} {i : Int} {j : Nat} (hj : j < l.length) (h : i = j) : getI l i = l[j] := by
  subst h
  unfold getI
  rw [List.getD_eq_getElem?_getD, Int.toNat_natCast, List.getElem?_eq_getElem hj]; rfl

@[simp] theorem goesOn_regs (l : List Ins) (s : State) (R : List Int) (pc : Int) : (goesOn l { s with regs := R } pc).pc = (goesOn l s pc).pc ∧ (goesOn l { s with regs := R } pc).code = (goesOn l s pc).code ∧ (goesOn l { s with regs := R } pc).regs = R ∧ (goesOn l { s with regs := R } pc).out = s.out := by
  unfold goesOn; split <;> simp
@[simp] theorem goesOn_out (l : List Ins) (s : State) (R : List Int) (pc : Int) : (goesOn l { s with out := R } pc).pc = (goesOn l s pc).pc ∧ (goesOn l { s with out := R } pc).code = (goesOn l s pc).code ∧ (goesOn l { s with out := R } pc).regs = s.regs ∧ (goesOn l { s with out := R } pc).out = R := by
  unfold goesOn; split <;> simp
theorem goesOn_same (l : List Ins) (s : State) (pc : Int) : (goesOn l s pc).regs = s.regs ∧ (goesOn l s pc).out = s.out := by
  unfold goesOn; split <;> simp

theorem Rd.atInt {H : Heap} {v : Value} {l : List Int} (h : Rd H v l) {i : Int} (hi : 0 ≤ i ∧ i < l.length) : H.rd (eP v i.toNat 0 1) 1 = some [.int .i64 (getI l i)] := by
  have := h.all (i := i.toNat) (by omega)
  rw [getI_get (j := i.toNat) (by omega) (by omega)]
  exact this
theorem Rd.atIns {H : Heap} {v : Value} {l : List Ins} (h : Rd H v l) {i : Int} (hi : 0 ≤ i ∧ i < l.length) : H.rd (eP v i.toNat 0 5) 5 = some (fl (insAt l i)) := by
  have := h.all (i := i.toNat) (by omega)
  rw [insAt_get (j := i.toNat) (by omega) (by omega)]
  exact this

theorem Rd.insF {H : Heap} {v : Value} {l : List Ins} (h : Rd H v l) {i : Int} (hi : 0 ≤ i ∧ i < l.length) {off : Nat} (ho : off + 1 ≤ 5) : H.rd (eP v i.toNat off 5) 1 = some (((fl (insAt l i)).drop off).take 1) := by
  have := h.at (i := i.toNat) (off := off) (n := 1) (by omega) ho
  rw [insAt_get (j := i.toNat) (by omega) (by omega)]
  exact this
theorem insOk_op {x : Ins} {p n : Int} (h : insOk x p n = true) : 1 ≤ x.op ∧ x.op ≤ 11 := by
  unfold insOk at h
  simp only [Bool.and_eq_true] at h
  have h := h.2
  repeat' split at h
  all_goals first | omega | simp at h

end Go.Proofs.Ytpnbojehfngigaa.IM

/- The small codes of the functions, printed by a program of this claim; each is held against the loaded function by the kernel. -/
namespace Go.Proofs.Ytpnbojehfngigaa.IM
open Go Go.Proofs
set_option linter.unusedVariables false
set_option maxRecDepth 100000
theorem mixed : Try.prog.follows .mixedOrders = true := by kernel_rfl
noncomputable abbrev pg : Program := Try.prog
/-- laws.FnRestore -/
def c3_0 : IC := .reg [⟨(some 2), .mv, [.c (.bool false)], none⟩] [(2, 1)] none
def c3_1 : IC := .reg [⟨(some 2), .mv, [.c (.bool true)], none⟩] [(2, 1)] none
def c3_2 : IC := .seq c3_1 .ret
def c3_3 : IC := .regc [⟨(some 13), .mv, [.v 0 0], none⟩, ⟨(some 14), .call 4, [.l 13], none⟩] [] none (.l 14) c3_2 .skip
def c3_4 : IC := .reg [⟨(some 16), .mv, [.v 0 0], none⟩, ⟨(some 17), .call 5, [.l 16], none⟩, ⟨(some 15), .mv, [.l 17], none⟩, ⟨(some 18), .ex 0, [.l 15], none⟩, ⟨(some 19), .ex 1, [.l 15], none⟩, ⟨(some 20), .ex 2, [.l 15], none⟩, ⟨(some 21), .ex 3, [.l 15], none⟩, ⟨(some 3), .mv, [.l 18], none⟩, ⟨(some 4), .mv, [.l 19], none⟩, ⟨(some 5), .mv, [.l 20], none⟩, ⟨(some 6), .mv, [.l 21], none⟩] [(3, 2), (4, 3), (5, 4), (6, 5)] none
def c3_5 : IC := .reg [⟨(some 23), .mv, [.v 2 3], none⟩, ⟨(some 24), .mv, [.v 3 4], none⟩, ⟨(some 25), .mv, [.v 4 5], none⟩, ⟨(some 26), .mv, [.v 5 6], none⟩, ⟨(some 27), .call 6, [.l 23, .l 24, .l 25, .l 26], none⟩, ⟨(some 22), .mv, [.l 27], none⟩, ⟨(some 28), .ex 0, [.l 22], none⟩, ⟨(some 29), .ex 1, [.l 22], none⟩, ⟨(some 7), .abx 0 [.int .i64 0, .slice none 0 0, .slice none 0 0, .int .i64 0], [], none⟩, ⟨none, .st 4, [.b 0 7, .l 28], none⟩, ⟨(some 8), .mv, [.l 29], none⟩] [(8, 6)] none
def c3_6 : IC := .reg [⟨(some 31), .mv, [.v 2 3], none⟩, ⟨(some 32), .mv, [.v 3 4], none⟩, ⟨(some 33), .mv, [.v 4 5], none⟩, ⟨(some 34), .mv, [.v 5 6], none⟩, ⟨(some 35), .call 7, [.l 31, .l 32, .l 33, .l 34], none⟩, ⟨(some 30), .mv, [.l 35], none⟩, ⟨(some 36), .ex 0, [.l 30], none⟩, ⟨(some 37), .ex 1, [.l 30], none⟩, ⟨(some 9), .abx 1 [.int .i64 0, .slice none 0 0, .slice none 0 0, .int .i64 0], [], none⟩, ⟨none, .st 4, [.b 1 9, .l 36], none⟩, ⟨(some 10), .mv, [.l 37], none⟩] [(10, 7)] none
def c3_7 : IC := .reg [⟨(some 2), .mv, [.c (.bool false)], none⟩] [(2, 1)] none
def c3_8 : IC := .seq c3_7 .ret
def c3_9 : IC := .regc [⟨(some 38), .mv, [.v 6 8], none⟩, ⟨(some 39), .mv, [.v 7 10], none⟩, ⟨(some 40), .bin .neq .int, [.l 38, .l 39], none⟩, ⟨(some 41), .mv, [.l 40], none⟩, ⟨(some 42), .mv, [.v 2 3], (some (41, false))⟩, ⟨(some 43), .mv, [.v 3 4], (some (41, false))⟩, ⟨(some 44), .mv, [.v 4 5], (some (41, false))⟩, ⟨(some 45), .call 8, [.l 42, .l 43, .l 44], (some (41, false))⟩, ⟨(some 46), .mv, [.v 2 3], (some (41, false))⟩, ⟨(some 47), .mv, [.v 3 4], (some (41, false))⟩, ⟨(some 48), .mv, [.v 4 5], (some (41, false))⟩, ⟨(some 49), .call 9, [.l 46, .l 47, .l 48], (some (41, false))⟩, ⟨(some 50), .bin .neq .bool, [.l 45, .l 49], (some (41, false))⟩, ⟨(some 51), .pick, [.l 41, .c (.bool true), .l 50], none⟩, ⟨(some 52), .mv, [.l 51], none⟩, ⟨(some 53), .mv, [.v 2 3], (some (52, false))⟩, ⟨(some 54), .mv, [.v 3 4], (some (52, false))⟩, ⟨(some 55), .mv, [.v 4 5], (some (52, false))⟩, ⟨(some 56), .mv, [.v 5 6], (some (52, false))⟩, ⟨(some 57), .call 10, [.l 53, .l 54, .l 55, .l 56], (some (52, false))⟩, ⟨(some 58), .mv, [.v 6 8], (some (52, false))⟩, ⟨(some 59), .bin .neq .int, [.l 57, .l 58], (some (52, false))⟩, ⟨(some 60), .pick, [.l 52, .c (.bool true), .l 59], none⟩] [] none (.l 60) c3_8 .skip
def c3_10 : IC := .reg [⟨(some 63), .fa 1, [.b 0 7], none⟩, ⟨(some 64), .ld 1 false, [.l 63], none⟩, ⟨(some 65), .len, [.l 64], none⟩, ⟨(some 66), .bin .eql .int, [.l 65, .c (.int .i64 0)], none⟩, ⟨(some 2), .mv, [.l 66], none⟩] [(2, 1)] none
def c3_11 : IC := .seq c3_10 .ret
def c3_12 : IC := .regc [⟨(some 61), .mv, [.v 6 8], none⟩, ⟨(some 62), .bin .lss .int, [.l 61, .c (.int .i64 0)], none⟩] [] none (.l 62) c3_11 .skip
def c3_13 : IC := .reg [⟨(some 68), .mv, [.v 2 3], none⟩, ⟨(some 69), .mv, [.v 3 4], none⟩, ⟨(some 70), .mv, [.v 5 6], none⟩, ⟨(some 71), .sl false true 3, [.l 69, .l 70], none⟩, ⟨(some 72), .call 11, [.l 68, .l 71], none⟩, ⟨(some 67), .mv, [.l 72], none⟩, ⟨(some 73), .ex 0, [.l 67], none⟩, ⟨(some 74), .ex 1, [.l 67], none⟩, ⟨(some 11), .abx 2 [.int .i64 0, .slice none 0 0, .slice none 0 0, .int .i64 0], [], none⟩, ⟨none, .st 4, [.b 2 11, .l 73], none⟩, ⟨(some 12), .mv, [.l 74], none⟩] [(12, 8)] none
def c3_14 : IC := .reg [⟨(some 75), .mv, [.v 8 12], none⟩, ⟨(some 76), .mv, [.l 75], none⟩, ⟨(some 77), .ld 4 true, [.b 0 7], (some (76, true))⟩, ⟨(some 78), .ld 4 true, [.b 2 11], (some (76, true))⟩, ⟨(some 79), .call 12, [.l 77, .l 78], (some (76, true))⟩, ⟨(some 80), .pick, [.l 76, .l 79, .c (.bool false)], none⟩, ⟨(some 81), .mv, [.l 80], none⟩, ⟨(some 82), .mv, [.v 6 8], (some (81, true))⟩, ⟨(some 83), .mv, [.v 5 6], (some (81, true))⟩, ⟨(some 84), .bin .leq .int, [.l 82, .l 83], (some (81, true))⟩, ⟨(some 85), .pick, [.l 81, .l 84, .c (.bool false)], none⟩, ⟨(some 2), .mv, [.l 85], none⟩] [(2, 1)] none
def c3_15 : IC := .seq c3_14 .ret
def c3_16 : IC := .seq c3_13 c3_15
def c3_17 : IC := .seq c3_12 c3_16
def c3_18 : IC := .seq c3_9 c3_17
def c3_19 : IC := .seq c3_6 c3_18
def c3_20 : IC := .seq c3_5 c3_19
def c3_21 : IC := .seq c3_4 c3_20
def c3_22 : IC := .seq c3_3 c3_21
def c3_23 : IC := .seq c3_0 c3_22
def c3 : IFun := ⟨1, [.v 1 2], c3_23⟩
theorem comp3 : compile Try.prog Try.f3 [2, 3, 4, 5, 6, 8, 10, 12] [7, 9, 11] = some c3 := by kernel_rfl
theorem go3 {args : List Value} (hl : args.length = 1) {H : Heap} {Q : List Value → Heap → Prop} (h : ∀ C, Ok pg C → W pg C c3_23 ⟨args.map some ++ List.replicate 8 none, List.replicate 3 [], H⟩ (Fin [.v 1 2] Q)) : ICall pg 3 args H Q :=
  call_go Try.func3 (by kernel_rfl) mixed comp3 hl h
/-- laws.big -/
def c4_0 : IC := .reg [⟨(some 2), .mv, [.c (.bool false)], none⟩] [(2, 1)] none
def c4_1 : IC := .reg [⟨(some 3), .mv, [.v 0 0], none⟩, ⟨(some 4), .len, [.l 3], none⟩, ⟨(some 5), .bin .gtr .int, [.l 4, .c (.int .i64 1048576)], none⟩, ⟨(some 2), .mv, [.l 5], none⟩] [(2, 1)] none
def c4_2 : IC := .seq c4_1 .ret
def c4_3 : IC := .seq c4_0 c4_2
def c4 : IFun := ⟨1, [.v 1 2], c4_3⟩
theorem comp4 : compile Try.prog Try.f4 [2] [] = some c4 := by kernel_rfl
theorem go4 {args : List Value} (hl : args.length = 1) {H : Heap} {Q : List Value → Heap → Prop} (h : ∀ C, Ok pg C → W pg C c4_3 ⟨args.map some ++ List.replicate 1 none, List.replicate 0 [], H⟩ (Fin [.v 1 2] Q)) : ICall pg 4 args H Q :=
  call_go Try.func4 (by kernel_rfl) mixed comp4 hl h
/-- spec.DrawRestore -/
def c5_0 : IC := .reg [⟨(some 2), .mv, [.c (.slice none 0 0)], none⟩, ⟨(some 3), .mv, [.c (.slice none 0 0)], none⟩, ⟨(some 4), .mv, [.c (.slice none 0 0)], none⟩, ⟨(some 5), .mv, [.c (.int .i64 0)], none⟩] [(2, 1), (3, 2), (4, 3), (5, 4)] none
def c5_1 : IC := .reg [⟨(some 11), .mv, [.v 0 0], none⟩, ⟨(some 12), .call 13, [.l 11], none⟩, ⟨(some 10), .mv, [.l 12], none⟩, ⟨(some 13), .ex 0, [.l 10], none⟩, ⟨(some 14), .ex 1, [.l 10], none⟩, ⟨(some 15), .ex 2, [.l 10], none⟩, ⟨(some 16), .ex 3, [.l 10], none⟩, ⟨(some 6), .mv, [.l 13], none⟩, ⟨(some 7), .mv, [.l 14], none⟩, ⟨(some 8), .mv, [.l 15], none⟩, ⟨(some 9), .mv, [.l 16], none⟩] [(6, 5), (7, 6), (8, 7), (9, 8)] none
def c5_2 : IC := .reg [⟨(some 17), .mv, [.v 5 6], none⟩, ⟨(some 18), .mv, [.v 6 7], none⟩, ⟨(some 19), .mv, [.v 7 8], none⟩, ⟨(some 20), .mv, [.v 8 9], none⟩, ⟨(some 2), .mv, [.l 17], none⟩, ⟨(some 3), .mv, [.l 18], none⟩, ⟨(some 4), .mv, [.l 19], none⟩, ⟨(some 5), .mv, [.l 20], none⟩] [(2, 1), (3, 2), (4, 3), (5, 4)] none
def c5_3 : IC := .seq c5_2 .ret
def c5_4 : IC := .seq c5_1 c5_3
def c5_5 : IC := .seq c5_0 c5_4
def c5 : IFun := ⟨1, [.v 1 2, .v 2 3, .v 3 4, .v 4 5], c5_5⟩
theorem comp5 : compile Try.prog Try.f5 [2, 3, 4, 5, 6, 7, 8, 9] [] = some c5 := by kernel_rfl
theorem go5 {args : List Value} (hl : args.length = 1) {H : Heap} {Q : List Value → Heap → Prop} (h : ∀ C, Ok pg C → W pg C c5_5 ⟨args.map some ++ List.replicate 8 none, List.replicate 0 [], H⟩ (Fin [.v 1 2, .v 2 3, .v 3 4, .v 4 5] Q)) : ICall pg 5 args H Q :=
  call_go Try.func5 (by kernel_rfl) mixed comp5 hl h
/-- impl.Restore -/
def c6_0 : IC := .reg [⟨(some 8), .abx 0 [.int .i64 0, .slice none 0 0, .slice none 0 0, .int .i64 0], [], none⟩, ⟨(some 9), .mv, [.c (.int .i64 0)], none⟩] [(9, 4)] none
def c6_1 : IC := .reg [⟨(some 27), .bd [.int .i64 0, .slice none 0 0, .slice none 0 0, .int .i64 0] [], [], none⟩, ⟨none, .st 4, [.b 0 8, .l 27], none⟩, ⟨(some 9), .mv, [.c (.int .i64 (-1))], none⟩] [(9, 4)] none
def c6_2 : IC := .seq c6_1 .ret
def c6_3 : IC := .regc [⟨(some 15), .mv, [.v 0 0], none⟩, ⟨(some 16), .mv, [.v 1 1], none⟩, ⟨(some 17), .mv, [.v 2 2], none⟩, ⟨(some 18), .call 8, [.l 15, .l 16, .l 17], none⟩, ⟨(some 19), .not, [.l 18], none⟩, ⟨(some 20), .mv, [.l 19], none⟩, ⟨(some 21), .mv, [.v 3 3], (some (20, false))⟩, ⟨(some 22), .mv, [.v 1 1], (some (20, false))⟩, ⟨(some 23), .len, [.l 22], (some (20, false))⟩, ⟨(some 24), .call 14, [.l 21, .c (.int .i64 0), .l 23], (some (20, false))⟩, ⟨(some 25), .not, [.l 24], (some (20, false))⟩, ⟨(some 26), .pick, [.l 20, .c (.bool true), .l 25], none⟩] [] none (.l 26) c6_2 .skip
def c6_4 : IC := .reg [⟨(some 28), .mv, [.v 2 2], none⟩, ⟨(some 29), .ia 5, [.l 28, .c (.int .i64 0)], none⟩, ⟨(some 30), .ld 5 true, [.l 29], none⟩, ⟨(some 10), .abx 1 [.int .i64 0, .int .i64 0, .slice none 0 0, .slice none 0 0, .int .i64 0], [], none⟩, ⟨none, .st 5, [.b 1 10, .l 30], none⟩] [] none
def c6_5 : IC := .reg [⟨(some 31), .mv, [.v 2 2], none⟩, ⟨(some 32), .len, [.v 5 31], none⟩, ⟨(some 33), .mv, [.c (.int .i64 0)], none⟩] [(31, 5), (32, 6), (33, 7)] none
def c6_6 : IC := .reg [⟨(some 34), .bin .lss .int, [.v 7 33, .v 6 32], none⟩] [(34, 8)] none
def c6_7 : IC := .exit 0
def c6_8 : IC := .cond (.v 8 34) .skip c6_7
def c6_9 : IC := .reg [⟨(some 35), .ia 5, [.v 5 31, .v 7 33], none⟩, ⟨(some 36), .ld 5 true, [.l 35], none⟩, ⟨(some 12), .abx 2 [.int .i64 0, .int .i64 0, .slice none 0 0, .slice none 0 0, .int .i64 0], [], none⟩, ⟨none, .st 5, [.b 2 12, .l 36], none⟩] [] none
def c6_10 : IC := .reg [⟨(some 41), .ld 5 true, [.b 2 12], none⟩, ⟨none, .st 5, [.b 1 10, .l 41], none⟩] [] none
def c6_11 : IC := .regc [⟨(some 37), .fa 0, [.b 2 12], none⟩, ⟨(some 38), .ld 1 false, [.l 37], none⟩, ⟨(some 39), .mv, [.v 3 3], none⟩, ⟨(some 40), .bin .leq .int, [.l 38, .l 39], none⟩] [] none (.l 40) c6_10 .skip
def c6_12 : IC := .seq c6_9 c6_11
def c6_13 : IC := .block 1 c6_12
def c6_14 : IC := .reg [⟨(some 42), .bin .add .int, [.v 7 33, .c (.int .i64 1)], none⟩, ⟨(some 33), .mv, [.l 42], none⟩] [(33, 7)] none
def c6_15 : IC := .seq c6_13 c6_14
def c6_16 : IC := .seq c6_8 c6_15
def c6_17 : IC := .seq c6_6 c6_16
def c6_18 : IC := .loop c6_17
def c6_19 : IC := .block 0 c6_18
def c6_20 : IC := .seq c6_5 c6_19
def c6_21 : IC := .reg [⟨(some 44), .mv, [.v 0 0], none⟩, ⟨(some 45), .fa 1, [.b 1 10], none⟩, ⟨(some 46), .ld 4 true, [.l 45], none⟩, ⟨(some 47), .call 16, [.l 46], none⟩, ⟨(some 48), .mv, [.v 1 1], none⟩, ⟨(some 49), .fa 0, [.b 1 10], none⟩, ⟨(some 50), .ld 1 false, [.l 49], none⟩, ⟨(some 51), .mv, [.v 3 3], none⟩, ⟨(some 52), .sl true true 3, [.l 48, .l 50, .l 51], none⟩, ⟨(some 53), .call 15, [.l 44, .l 47, .l 52], none⟩, ⟨(some 43), .mv, [.l 53], none⟩, ⟨(some 54), .ex 0, [.l 43], none⟩, ⟨(some 55), .ex 1, [.l 43], none⟩, ⟨(some 13), .abx 3 [.int .i64 0, .slice none 0 0, .slice none 0 0, .int .i64 0], [], none⟩, ⟨none, .st 4, [.b 3 13, .l 54], none⟩, ⟨(some 14), .mv, [.l 55], none⟩] [] (some 9)
def c6_22 : IC := .reg [⟨(some 56), .ld 4 true, [.b 3 13], none⟩, ⟨(some 57), .mv, [.v 3 3], none⟩, ⟨(some 58), .fa 0, [.b 1 10], none⟩, ⟨(some 59), .ld 1 false, [.l 58], none⟩, ⟨(some 60), .bin .sub .int, [.l 57, .l 59], none⟩, ⟨none, .st 4, [.b 0 8, .l 56], none⟩, ⟨(some 9), .mv, [.l 60], none⟩] [(9, 4)] (some 0)
def c6_23 : IC := .seq c6_22 .ret
def c6_24 : IC := .seq c6_21 c6_23
def c6_25 : IC := .seq c6_20 c6_24
def c6_26 : IC := .seq c6_4 c6_25
def c6_27 : IC := .seq c6_3 c6_26
def c6_28 : IC := .seq c6_0 c6_27
def c6 : IFun := ⟨4, [.b 0 8 4 true, .v 4 9], c6_28⟩
theorem comp6 : compile Try.prog Try.f6 [9, 31, 32, 33, 34] [8, 10, 12, 13] = some c6 := by kernel_rfl
theorem go6 {args : List Value} (hl : args.length = 4) {H : Heap} {Q : List Value → Heap → Prop} (h : ∀ C, Ok pg C → W pg C c6_28 ⟨args.map some ++ List.replicate 5 none, List.replicate 4 [], H⟩ (Fin [.b 0 8 4 true, .v 4 9] Q)) : ICall pg 6 args H Q :=
  call_go Try.func6 (by kernel_rfl) mixed comp6 hl h
/-- spec.Restore -/
def c7_0 : IC := .reg [⟨(some 8), .abx 0 [.int .i64 0, .slice none 0 0, .slice none 0 0, .int .i64 0], [], none⟩, ⟨(some 9), .mv, [.c (.int .i64 0)], none⟩] [(9, 4)] none
def c7_1 : IC := .reg [⟨(some 26), .bd [.int .i64 0, .slice none 0 0, .slice none 0 0, .int .i64 0] [], [], none⟩, ⟨none, .st 4, [.b 0 8, .l 26], none⟩, ⟨(some 9), .mv, [.c (.int .i64 (-1))], none⟩] [(9, 4)] none
def c7_2 : IC := .seq c7_1 .ret
def c7_3 : IC := .regc [⟨(some 14), .mv, [.v 0 0], none⟩, ⟨(some 15), .mv, [.v 1 1], none⟩, ⟨(some 16), .mv, [.v 2 2], none⟩, ⟨(some 17), .call 9, [.l 14, .l 15, .l 16], none⟩, ⟨(some 18), .not, [.l 17], none⟩, ⟨(some 19), .mv, [.l 18], none⟩, ⟨(some 20), .mv, [.v 3 3], (some (19, false))⟩, ⟨(some 21), .mv, [.v 1 1], (some (19, false))⟩, ⟨(some 22), .len, [.l 21], (some (19, false))⟩, ⟨(some 23), .call 17, [.l 20, .c (.int .i64 0), .l 22], (some (19, false))⟩, ⟨(some 24), .not, [.l 23], (some (19, false))⟩, ⟨(some 25), .pick, [.l 19, .c (.bool true), .l 24], none⟩] [] none (.l 25) c7_2 .skip
def c7_4 : IC := .reg [⟨(some 10), .mv, [.c (.int .i64 0)], none⟩] [(10, 5)] none
def c7_5 : IC := .reg [⟨(some 11), .mv, [.c (.int .i64 0)], none⟩] [(11, 6)] none
def c7_6 : IC := .exit 0
def c7_7 : IC := .regc [⟨(some 27), .mv, [.v 6 11], none⟩, ⟨(some 28), .mv, [.v 2 2], none⟩, ⟨(some 29), .len, [.l 28], none⟩, ⟨(some 30), .bin .lss .int, [.l 27, .l 29], none⟩] [] none (.l 30) .skip c7_6
def c7_8 : IC := .reg [⟨(some 40), .mv, [.v 6 11], none⟩, ⟨(some 10), .mv, [.l 40], none⟩] [(10, 5)] none
def c7_9 : IC := .regc [⟨(some 33), .mv, [.v 2 2], none⟩, ⟨(some 34), .mv, [.v 6 11], none⟩, ⟨(some 35), .ia 5, [.l 33, .l 34], none⟩, ⟨(some 36), .fa 0, [.l 35], none⟩, ⟨(some 37), .ld 1 false, [.l 36], none⟩, ⟨(some 38), .mv, [.v 3 3], none⟩, ⟨(some 39), .bin .leq .int, [.l 37, .l 38], none⟩] [] none (.l 39) c7_8 .skip
def c7_10 : IC := .block 1 c7_9
def c7_11 : IC := .reg [⟨(some 31), .mv, [.v 6 11], none⟩, ⟨(some 32), .bin .add .int, [.l 31, .c (.int .i64 1)], none⟩, ⟨(some 11), .mv, [.l 32], none⟩] [(11, 6)] none
def c7_12 : IC := .seq c7_10 c7_11
def c7_13 : IC := .seq c7_7 c7_12
def c7_14 : IC := .loop c7_13
def c7_15 : IC := .block 0 c7_14
def c7_16 : IC := .seq c7_5 c7_15
def c7_17 : IC := .reg [⟨(some 41), .mv, [.v 2 2], none⟩, ⟨(some 42), .mv, [.v 5 10], none⟩, ⟨(some 43), .ia 5, [.l 41, .l 42], none⟩, ⟨(some 44), .fa 1, [.l 43], none⟩, ⟨(some 45), .ld 4 true, [.l 44], none⟩, ⟨(some 46), .call 18, [.l 45], none⟩, ⟨(some 12), .abx 1 [.int .i64 0, .slice none 0 0, .slice none 0 0, .int .i64 0], [], none⟩, ⟨none, .st 4, [.b 1 12, .l 46], none⟩] [] none
def c7_18 : IC := .reg [⟨(some 47), .mv, [.v 2 2], none⟩, ⟨(some 48), .mv, [.v 5 10], none⟩, ⟨(some 49), .ia 5, [.l 47, .l 48], none⟩, ⟨(some 50), .fa 0, [.l 49], none⟩, ⟨(some 51), .ld 1 false, [.l 50], none⟩, ⟨(some 13), .mv, [.l 51], none⟩] [(13, 7)] none
def c7_19 : IC := .exit 2
def c7_20 : IC := .regc [⟨(some 52), .mv, [.v 7 13], none⟩, ⟨(some 53), .mv, [.v 3 3], none⟩, ⟨(some 54), .bin .lss .int, [.l 52, .l 53], none⟩] [] none (.l 54) .skip c7_19
def c7_21 : IC := .reg [⟨(some 58), .mv, [.v 0 0], none⟩, ⟨(some 59), .ld 4 true, [.b 1 12], none⟩, ⟨(some 60), .mv, [.v 1 1], none⟩, ⟨(some 61), .mv, [.v 7 13], none⟩, ⟨(some 62), .ia 3, [.l 60, .l 61], none⟩, ⟨(some 63), .ld 3 true, [.l 62], none⟩, ⟨(some 64), .call 19, [.l 58, .l 59, .l 63], none⟩, ⟨(some 57), .mv, [.l 64], none⟩, ⟨(some 65), .ex 0, [.l 57], none⟩, ⟨(some 66), .ex 1, [.l 57], none⟩, ⟨none, .st 4, [.b 1 12, .l 65], none⟩] [] (some 0)
def c7_22 : IC := .block 3 c7_21
def c7_23 : IC := .reg [⟨(some 55), .mv, [.v 7 13], none⟩, ⟨(some 56), .bin .add .int, [.l 55, .c (.int .i64 1)], none⟩, ⟨(some 13), .mv, [.l 56], none⟩] [(13, 7)] none
def c7_24 : IC := .seq c7_22 c7_23
def c7_25 : IC := .seq c7_20 c7_24
def c7_26 : IC := .loop c7_25
def c7_27 : IC := .block 2 c7_26
def c7_28 : IC := .seq c7_18 c7_27
def c7_29 : IC := .reg [⟨(some 67), .ld 4 true, [.b 1 12], none⟩, ⟨(some 68), .mv, [.v 3 3], none⟩, ⟨(some 69), .mv, [.v 2 2], none⟩, ⟨(some 70), .mv, [.v 5 10], none⟩, ⟨(some 71), .ia 5, [.l 69, .l 70], none⟩, ⟨(some 72), .fa 0, [.l 71], none⟩, ⟨(some 73), .ld 1 false, [.l 72], none⟩, ⟨(some 74), .bin .sub .int, [.l 68, .l 73], none⟩, ⟨none, .st 4, [.b 0 8, .l 67], none⟩, ⟨(some 9), .mv, [.l 74], none⟩] [(9, 4)] (some 0)
def c7_30 : IC := .seq c7_29 .ret
def c7_31 : IC := .seq c7_28 c7_30
def c7_32 : IC := .seq c7_17 c7_31
def c7_33 : IC := .seq c7_16 c7_32
def c7_34 : IC := .seq c7_4 c7_33
def c7_35 : IC := .seq c7_3 c7_34
def c7_36 : IC := .seq c7_0 c7_35
def c7 : IFun := ⟨4, [.b 0 8 4 true, .v 4 9], c7_36⟩
theorem comp7 : compile Try.prog Try.f7 [9, 10, 11, 13] [8, 12] = some c7 := by kernel_rfl
theorem go7 {args : List Value} (hl : args.length = 4) {H : Heap} {Q : List Value → Heap → Prop} (h : ∀ C, Ok pg C → W pg C c7_36 ⟨args.map some ++ List.replicate 4 none, List.replicate 2 [], H⟩ (Fin [.b 0 8 4 true, .v 4 9] Q)) : ICall pg 7 args H Q :=
  call_go Try.func7 (by kernel_rfl) mixed comp7 hl h
/-- impl.KeptOk -/
def c8_0 : IC := .reg [⟨(some 6), .mv, [.c (.bool false)], none⟩] [(6, 3)] none
def c8_1 : IC := .reg [⟨(some 14), .mv, [.v 0 0], none⟩, ⟨(some 15), .mv, [.v 1 1], none⟩, ⟨(some 16), .call 11, [.l 14, .l 15], none⟩, ⟨(some 13), .mv, [.l 16], none⟩, ⟨(some 17), .ex 0, [.l 13], none⟩, ⟨(some 18), .ex 1, [.l 13], none⟩, ⟨(some 7), .abx 0 [.int .i64 0, .slice none 0 0, .slice none 0 0, .int .i64 0], [], none⟩, ⟨none, .st 4, [.b 0 7, .l 17], none⟩, ⟨(some 8), .mv, [.l 18], none⟩] [(8, 4)] none
def c8_2 : IC := .reg [⟨(some 6), .mv, [.c (.bool false)], none⟩] [(6, 3)] none
def c8_3 : IC := .seq c8_2 .ret
def c8_4 : IC := .regc [⟨(some 19), .mv, [.v 4 8], none⟩, ⟨(some 20), .not, [.l 19], none⟩, ⟨(some 21), .mv, [.l 20], none⟩, ⟨(some 22), .mv, [.v 2 2], (some (21, false))⟩, ⟨(some 23), .len, [.l 22], (some (21, false))⟩, ⟨(some 24), .bin .eql .int, [.l 23, .c (.int .i64 0)], (some (21, false))⟩, ⟨(some 25), .pick, [.l 21, .c (.bool true), .l 24], none⟩, ⟨(some 26), .mv, [.l 25], none⟩, ⟨(some 27), .mv, [.v 2 2], (some (26, false))⟩, ⟨(some 28), .ia 5, [.l 27, .c (.int .i64 0)], (some (26, false))⟩, ⟨(some 29), .fa 0, [.l 28], (some (26, false))⟩, ⟨(some 30), .ld 1 false, [.l 29], (some (26, false))⟩, ⟨(some 31), .bin .neq .int, [.l 30, .c (.int .i64 0)], (some (26, false))⟩, ⟨(some 32), .pick, [.l 26, .c (.bool true), .l 31], none⟩] [] none (.l 32) c8_3 .skip
def c8_5 : IC := .seq c8_1 c8_4
def c8_6 : IC := .reg [⟨(some 33), .mv, [.v 2 2], none⟩, ⟨(some 34), .len, [.v 6 33], none⟩, ⟨(some 35), .mv, [.c (.int .i64 0)], none⟩] [(33, 6), (34, 7), (35, 8)] none
def c8_7 : IC := .reg [⟨(some 36), .bin .lss .int, [.v 8 35, .v 7 34], none⟩] [(36, 9)] none
def c8_8 : IC := .exit 0
def c8_9 : IC := .cond (.v 9 36) .skip c8_8
def c8_10 : IC := .reg [⟨(some 37), .mv, [.v 8 35], none⟩, ⟨(some 38), .ia 5, [.v 6 33, .v 8 35], none⟩, ⟨(some 39), .ld 5 true, [.l 38], none⟩, ⟨(some 10), .abx 1 [.int .i64 0, .int .i64 0, .slice none 0 0, .slice none 0 0, .int .i64 0], [], none⟩, ⟨(some 9), .mv, [.l 37], none⟩, ⟨none, .st 5, [.b 1 10, .l 39], none⟩] [(9, 5)] none
def c8_11 : IC := .reg [⟨(some 6), .mv, [.c (.bool false)], none⟩] [(6, 3)] none
def c8_12 : IC := .seq c8_11 .ret
def c8_13 : IC := .regc [⟨(some 40), .fa 0, [.b 1 10], none⟩, ⟨(some 41), .ld 1 false, [.l 40], none⟩, ⟨(some 42), .mv, [.v 1 1], none⟩, ⟨(some 43), .len, [.l 42], none⟩, ⟨(some 44), .call 14, [.l 41, .c (.int .i64 0), .l 43], none⟩, ⟨(some 45), .not, [.l 44], none⟩, ⟨(some 46), .mv, [.l 45], none⟩, ⟨(some 47), .mv, [.v 5 9], (some (46, false))⟩, ⟨(some 48), .bin .gtr .int, [.l 47, .c (.int .i64 0)], (some (46, false))⟩, ⟨(some 49), .mv, [.l 48], (some (46, false))⟩, ⟨(some 50), .mv, [.v 2 2], (some (49, true))⟩, ⟨(some 51), .mv, [.v 5 9], (some (49, true))⟩, ⟨(some 52), .bin .sub .int, [.l 51, .c (.int .i64 1)], (some (49, true))⟩, ⟨(some 53), .ia 5, [.l 50, .l 52], (some (49, true))⟩, ⟨(some 54), .fa 0, [.l 53], (some (49, true))⟩, ⟨(some 55), .ld 1 false, [.l 54], (some (49, true))⟩, ⟨(some 56), .fa 0, [.b 1 10], (some (49, true))⟩, ⟨(some 57), .ld 1 false, [.l 56], (some (49, true))⟩, ⟨(some 58), .bin .geq .int, [.l 55, .l 57], (some (49, true))⟩, ⟨(some 59), .pick, [.l 49, .l 58, .c (.bool false)], (some (46, false))⟩, ⟨(some 60), .pick, [.l 46, .c (.bool true), .l 59], none⟩] [] (some 0) (.l 60) c8_12 .skip
def c8_14 : IC := .reg [⟨(some 62), .mv, [.v 0 0], none⟩, ⟨(some 63), .mv, [.v 1 1], none⟩, ⟨(some 64), .fa 0, [.b 1 10], none⟩, ⟨(some 65), .ld 1 false, [.l 64], none⟩, ⟨(some 66), .sl false true 3, [.l 63, .l 65], none⟩, ⟨(some 67), .call 11, [.l 62, .l 66], none⟩, ⟨(some 61), .mv, [.l 67], none⟩, ⟨(some 68), .ex 0, [.l 61], none⟩, ⟨(some 69), .ex 1, [.l 61], none⟩, ⟨(some 11), .abx 2 [.int .i64 0, .slice none 0 0, .slice none 0 0, .int .i64 0], [], none⟩, ⟨none, .st 4, [.b 2 11, .l 68], none⟩, ⟨(some 12), .mv, [.l 69], none⟩] [] none
def c8_15 : IC := .reg [⟨(some 6), .mv, [.c (.bool false)], none⟩] [(6, 3)] none
def c8_16 : IC := .seq c8_15 .ret
def c8_17 : IC := .regc [⟨(some 70), .ld 4 true, [.b 2 11], none⟩, ⟨(some 71), .fa 1, [.b 1 10], none⟩, ⟨(some 72), .ld 4 true, [.l 71], none⟩, ⟨(some 73), .call 20, [.l 70, .l 72], none⟩, ⟨(some 74), .not, [.l 73], none⟩] [] none (.l 74) c8_16 .skip
def c8_18 : IC := .seq c8_14 c8_17
def c8_19 : IC := .seq c8_13 c8_18
def c8_20 : IC := .seq c8_10 c8_19
def c8_21 : IC := .block 1 c8_20
def c8_22 : IC := .reg [⟨(some 75), .bin .add .int, [.v 8 35, .c (.int .i64 1)], none⟩, ⟨(some 35), .mv, [.l 75], none⟩] [(35, 8)] none
def c8_23 : IC := .seq c8_21 c8_22
def c8_24 : IC := .seq c8_9 c8_23
def c8_25 : IC := .seq c8_7 c8_24
def c8_26 : IC := .loop c8_25
def c8_27 : IC := .block 0 c8_26
def c8_28 : IC := .seq c8_6 c8_27
def c8_29 : IC := .reg [⟨(some 6), .mv, [.c (.bool true)], none⟩] [(6, 3)] none
def c8_30 : IC := .seq c8_29 .ret
def c8_31 : IC := .seq c8_28 c8_30
def c8_32 : IC := .seq c8_5 c8_31
def c8_33 : IC := .seq c8_0 c8_32
def c8 : IFun := ⟨3, [.v 3 6], c8_33⟩
theorem comp8 : compile Try.prog Try.f8 [6, 8, 9, 33, 34, 35, 36] [7, 10, 11] = some c8 := by kernel_rfl
theorem go8 {args : List Value} (hl : args.length = 3) {H : Heap} {Q : List Value → Heap → Prop} (h : ∀ C, Ok pg C → W pg C c8_33 ⟨args.map some ++ List.replicate 7 none, List.replicate 3 [], H⟩ (Fin [.v 3 6] Q)) : ICall pg 8 args H Q :=
  call_go Try.func8 (by kernel_rfl) mixed comp8 hl h
/-- spec.KeptOk -/
def c9_0 : IC := .reg [⟨(some 6), .mv, [.c (.bool false)], none⟩] [(6, 3)] none
def c9_1 : IC := .reg [⟨(some 13), .mv, [.v 0 0], none⟩, ⟨(some 14), .mv, [.v 1 1], none⟩, ⟨(some 15), .call 21, [.l 13, .l 14], none⟩, ⟨(some 12), .mv, [.l 15], none⟩, ⟨(some 16), .ex 0, [.l 12], none⟩, ⟨(some 17), .ex 1, [.l 12], none⟩, ⟨(some 7), .abx 0 [.int .i64 0, .slice none 0 0, .slice none 0 0, .int .i64 0], [], none⟩, ⟨none, .st 4, [.b 0 7, .l 16], none⟩, ⟨(some 8), .mv, [.l 17], none⟩] [(8, 4)] none
def c9_2 : IC := .reg [⟨(some 6), .mv, [.c (.bool false)], none⟩] [(6, 3)] none
def c9_3 : IC := .seq c9_2 .ret
def c9_4 : IC := .regc [⟨(some 18), .mv, [.v 4 8], none⟩, ⟨(some 19), .not, [.l 18], none⟩, ⟨(some 20), .mv, [.l 19], none⟩, ⟨(some 21), .mv, [.v 2 2], (some (20, false))⟩, ⟨(some 22), .len, [.l 21], (some (20, false))⟩, ⟨(some 23), .bin .eql .int, [.l 22, .c (.int .i64 0)], (some (20, false))⟩, ⟨(some 24), .pick, [.l 20, .c (.bool true), .l 23], none⟩, ⟨(some 25), .mv, [.l 24], none⟩, ⟨(some 26), .mv, [.v 2 2], (some (25, false))⟩, ⟨(some 27), .ia 5, [.l 26, .c (.int .i64 0)], (some (25, false))⟩, ⟨(some 28), .fa 0, [.l 27], (some (25, false))⟩, ⟨(some 29), .ld 1 false, [.l 28], (some (25, false))⟩, ⟨(some 30), .bin .neq .int, [.l 29, .c (.int .i64 0)], (some (25, false))⟩, ⟨(some 31), .pick, [.l 25, .c (.bool true), .l 30], none⟩] [] none (.l 31) c9_3 .skip
def c9_5 : IC := .reg [⟨(some 9), .mv, [.c (.int .i64 0)], none⟩] [(9, 5)] none
def c9_6 : IC := .exit 0
def c9_7 : IC := .regc [⟨(some 32), .mv, [.v 5 9], none⟩, ⟨(some 33), .mv, [.v 2 2], none⟩, ⟨(some 34), .len, [.l 33], none⟩, ⟨(some 35), .bin .lss .int, [.l 32, .l 34], none⟩] [] none (.l 35) .skip c9_6
def c9_8 : IC := .reg [⟨(some 6), .mv, [.c (.bool false)], none⟩] [(6, 3)] none
def c9_9 : IC := .seq c9_8 .ret
def c9_10 : IC := .regc [⟨(some 38), .mv, [.v 2 2], none⟩, ⟨(some 39), .mv, [.v 5 9], none⟩, ⟨(some 40), .ia 5, [.l 38, .l 39], none⟩, ⟨(some 41), .fa 0, [.l 40], none⟩, ⟨(some 42), .ld 1 false, [.l 41], none⟩, ⟨(some 43), .mv, [.v 1 1], none⟩, ⟨(some 44), .len, [.l 43], none⟩, ⟨(some 45), .call 17, [.l 42, .c (.int .i64 0), .l 44], none⟩, ⟨(some 46), .not, [.l 45], none⟩, ⟨(some 47), .mv, [.l 46], none⟩, ⟨(some 48), .mv, [.v 5 9], (some (47, false))⟩, ⟨(some 49), .bin .gtr .int, [.l 48, .c (.int .i64 0)], (some (47, false))⟩, ⟨(some 50), .mv, [.l 49], (some (47, false))⟩, ⟨(some 51), .mv, [.v 2 2], (some (50, true))⟩, ⟨(some 52), .mv, [.v 5 9], (some (50, true))⟩, ⟨(some 53), .bin .sub .int, [.l 52, .c (.int .i64 1)], (some (50, true))⟩, ⟨(some 54), .ia 5, [.l 51, .l 53], (some (50, true))⟩, ⟨(some 55), .fa 0, [.l 54], (some (50, true))⟩, ⟨(some 56), .ld 1 false, [.l 55], (some (50, true))⟩, ⟨(some 57), .mv, [.v 2 2], (some (50, true))⟩, ⟨(some 58), .mv, [.v 5 9], (some (50, true))⟩, ⟨(some 59), .ia 5, [.l 57, .l 58], (some (50, true))⟩, ⟨(some 60), .fa 0, [.l 59], (some (50, true))⟩, ⟨(some 61), .ld 1 false, [.l 60], (some (50, true))⟩, ⟨(some 62), .bin .geq .int, [.l 56, .l 61], (some (50, true))⟩, ⟨(some 63), .pick, [.l 50, .l 62, .c (.bool false)], (some (47, false))⟩, ⟨(some 64), .pick, [.l 47, .c (.bool true), .l 63], none⟩] [] (some 24) (.l 64) c9_9 .skip
def c9_11 : IC := .reg [⟨(some 66), .mv, [.v 0 0], none⟩, ⟨(some 67), .mv, [.v 1 1], none⟩, ⟨(some 68), .mv, [.v 2 2], none⟩, ⟨(some 69), .mv, [.v 5 9], none⟩, ⟨(some 70), .ia 5, [.l 68, .l 69], none⟩, ⟨(some 71), .fa 0, [.l 70], none⟩, ⟨(some 72), .ld 1 false, [.l 71], none⟩, ⟨(some 73), .sl false true 3, [.l 67, .l 72], none⟩, ⟨(some 74), .call 21, [.l 66, .l 73], none⟩, ⟨(some 65), .mv, [.l 74], none⟩, ⟨(some 75), .ex 0, [.l 65], none⟩, ⟨(some 76), .ex 1, [.l 65], none⟩, ⟨(some 10), .abx 1 [.int .i64 0, .slice none 0 0, .slice none 0 0, .int .i64 0], [], none⟩, ⟨none, .st 4, [.b 1 10, .l 75], none⟩, ⟨(some 11), .mv, [.l 76], none⟩] [] none
def c9_12 : IC := .reg [⟨(some 6), .mv, [.c (.bool false)], none⟩] [(6, 3)] none
def c9_13 : IC := .seq c9_12 .ret
def c9_14 : IC := .regc [⟨(some 77), .ld 4 true, [.b 1 10], none⟩, ⟨(some 78), .mv, [.v 2 2], none⟩, ⟨(some 79), .mv, [.v 5 9], none⟩, ⟨(some 80), .ia 5, [.l 78, .l 79], none⟩, ⟨(some 81), .fa 1, [.l 80], none⟩, ⟨(some 82), .ld 4 true, [.l 81], none⟩, ⟨(some 83), .call 22, [.l 77, .l 82], none⟩, ⟨(some 84), .not, [.l 83], none⟩] [] (some 0) (.l 84) c9_13 .skip
def c9_15 : IC := .seq c9_11 c9_14
def c9_16 : IC := .seq c9_10 c9_15
def c9_17 : IC := .block 1 c9_16
def c9_18 : IC := .reg [⟨(some 36), .mv, [.v 5 9], none⟩, ⟨(some 37), .bin .add .int, [.l 36, .c (.int .i64 1)], none⟩, ⟨(some 9), .mv, [.l 37], none⟩] [(9, 5)] none
def c9_19 : IC := .seq c9_17 c9_18
def c9_20 : IC := .seq c9_7 c9_19
def c9_21 : IC := .loop c9_20
def c9_22 : IC := .block 0 c9_21
def c9_23 : IC := .seq c9_5 c9_22
def c9_24 : IC := .reg [⟨(some 6), .mv, [.c (.bool true)], none⟩] [(6, 3)] none
def c9_25 : IC := .seq c9_24 .ret
def c9_26 : IC := .seq c9_23 c9_25
def c9_27 : IC := .seq c9_4 c9_26
def c9_28 : IC := .seq c9_1 c9_27
def c9_29 : IC := .seq c9_0 c9_28
def c9 : IFun := ⟨3, [.v 3 6], c9_29⟩
theorem comp9 : compile Try.prog Try.f9 [6, 8, 9] [7, 10] = some c9 := by kernel_rfl
theorem go9 {args : List Value} (hl : args.length = 3) {H : Heap} {Q : List Value → Heap → Prop} (h : ∀ C, Ok pg C → W pg C c9_29 ⟨args.map some ++ List.replicate 3 none, List.replicate 2 [], H⟩ (Fin [.v 3 6] Q)) : ICall pg 9 args H Q :=
  call_go Try.func9 (by kernel_rfl) mixed comp9 hl h
/-- impl.Again -/
def c10_0 : IC := .reg [⟨(some 8), .mv, [.c (.int .i64 0)], none⟩] [(8, 4)] none
def c10_1 : IC := .reg [⟨(some 12), .mv, [.v 0 0], none⟩, ⟨(some 13), .mv, [.v 1 1], none⟩, ⟨(some 14), .mv, [.v 2 2], none⟩, ⟨(some 15), .mv, [.v 3 3], none⟩, ⟨(some 16), .call 6, [.l 12, .l 13, .l 14, .l 15], none⟩, ⟨(some 11), .mv, [.l 16], none⟩, ⟨(some 17), .ex 0, [.l 11], none⟩, ⟨(some 18), .ex 1, [.l 11], none⟩, ⟨(some 9), .abx 0 [.int .i64 0, .slice none 0 0, .slice none 0 0, .int .i64 0], [], none⟩, ⟨none, .st 4, [.b 0 9, .l 17], none⟩, ⟨(some 10), .mv, [.l 18], none⟩] [(10, 5)] none
def c10_2 : IC := .reg [⟨(some 19), .mv, [.v 5 10], none⟩, ⟨(some 8), .mv, [.l 19], none⟩] [(8, 4)] none
def c10_3 : IC := .seq c10_2 .ret
def c10_4 : IC := .seq c10_1 c10_3
def c10_5 : IC := .seq c10_0 c10_4
def c10 : IFun := ⟨4, [.v 4 8], c10_5⟩
theorem comp10 : compile Try.prog Try.f10 [8, 10] [9] = some c10 := by kernel_rfl
theorem go10 {args : List Value} (hl : args.length = 4) {H : Heap} {Q : List Value → Heap → Prop} (h : ∀ C, Ok pg C → W pg C c10_5 ⟨args.map some ++ List.replicate 2 none, List.replicate 1 [], H⟩ (Fin [.v 4 8] Q)) : ICall pg 10 args H Q :=
  call_go Try.func10 (by kernel_rfl) mixed comp10 hl h
/-- impl.Replay -/
def c11_0 : IC := .reg [⟨(some 4), .abx 0 [.int .i64 0, .slice none 0 0, .slice none 0 0, .int .i64 0], [], none⟩, ⟨(some 5), .mv, [.c (.bool false)], none⟩] [(5, 2)] none
def c11_1 : IC := .reg [⟨(some 14), .bd [.int .i64 0, .slice none 0 0, .slice none 0 0, .int .i64 0] [], [], none⟩, ⟨none, .st 4, [.b 0 4, .l 14], none⟩, ⟨(some 5), .mv, [.c (.bool false)], none⟩] [(5, 2)] none
def c11_2 : IC := .seq c11_1 .ret
def c11_3 : IC := .regc [⟨(some 6), .mv, [.v 0 0], none⟩, ⟨(some 7), .call 23, [.l 6, .c (.int .i64 4)], none⟩, ⟨(some 8), .not, [.l 7], none⟩, ⟨(some 9), .mv, [.l 8], none⟩, ⟨(some 10), .mv, [.v 1 1], (some (9, false))⟩, ⟨(some 11), .len, [.l 10], (some (9, false))⟩, ⟨(some 12), .bin .gtr .int, [.l 11, .c (.int .i64 200)], (some (9, false))⟩, ⟨(some 13), .pick, [.l 9, .c (.bool true), .l 12], none⟩] [] none (.l 13) c11_2 .skip
def c11_4 : IC := .reg [⟨(some 15), .mv, [.v 0 0], none⟩, ⟨(some 16), .call 24, [], none⟩, ⟨(some 17), .mv, [.v 1 1], none⟩, ⟨(some 18), .call 15, [.l 15, .l 16, .l 17], none⟩, ⟨(some 19), .ex 0, [.l 18], none⟩, ⟨(some 20), .ex 1, [.l 18], none⟩, ⟨none, .st 4, [.b 0 4, .l 19], none⟩, ⟨(some 5), .mv, [.l 20], none⟩] [(5, 2)] none
def c11_5 : IC := .seq c11_4 .ret
def c11_6 : IC := .seq c11_3 c11_5
def c11_7 : IC := .seq c11_0 c11_6
def c11 : IFun := ⟨2, [.b 0 4 4 true, .v 2 5], c11_7⟩
theorem comp11 : compile Try.prog Try.f11 [5] [4] = some c11 := by kernel_rfl
theorem go11 {args : List Value} (hl : args.length = 2) {H : Heap} {Q : List Value → Heap → Prop} (h : ∀ C, Ok pg C → W pg C c11_7 ⟨args.map some ++ List.replicate 1 none, List.replicate 1 [], H⟩ (Fin [.b 0 4 4 true, .v 2 5] Q)) : ICall pg 11 args H Q :=
  call_go Try.func11 (by kernel_rfl) mixed comp11 hl h
/-- laws.sameState -/
def c12_0 : IC := .reg [⟨(some 2), .bbx 0 4, [.v 0 0], none⟩, ⟨(some 3), .bbx 1 4, [.v 1 1], none⟩, ⟨(some 4), .mv, [.c (.bool false)], none⟩] [(4, 2)] none
def c12_1 : IC := .reg [⟨(some 5), .fa 0, [.b 0 2], none⟩, ⟨(some 6), .ld 1 false, [.l 5], none⟩, ⟨(some 7), .fa 0, [.b 1 3], none⟩, ⟨(some 8), .ld 1 false, [.l 7], none⟩, ⟨(some 9), .bin .eql .int, [.l 6, .l 8], none⟩, ⟨(some 10), .mv, [.l 9], none⟩, ⟨(some 11), .fa 3, [.b 0 2], (some (10, true))⟩, ⟨(some 12), .ld 1 false, [.l 11], (some (10, true))⟩, ⟨(some 13), .fa 3, [.b 1 3], (some (10, true))⟩, ⟨(some 14), .ld 1 false, [.l 13], (some (10, true))⟩, ⟨(some 15), .bin .eql .int, [.l 12, .l 14], (some (10, true))⟩, ⟨(some 16), .pick, [.l 10, .l 15, .c (.bool false)], none⟩, ⟨(some 17), .mv, [.l 16], none⟩, ⟨(some 18), .fa 1, [.b 0 2], (some (17, true))⟩, ⟨(some 19), .ld 1 false, [.l 18], (some (17, true))⟩, ⟨(some 20), .fa 1, [.b 1 3], (some (17, true))⟩, ⟨(some 21), .ld 1 false, [.l 20], (some (17, true))⟩, ⟨(some 22), .call 25, [.l 19, .l 21], (some (17, true))⟩, ⟨(some 23), .pick, [.l 17, .l 22, .c (.bool false)], none⟩, ⟨(some 24), .mv, [.l 23], none⟩, ⟨(some 25), .fa 2, [.b 0 2], (some (24, true))⟩, ⟨(some 26), .ld 1 false, [.l 25], (some (24, true))⟩, ⟨(some 27), .fa 2, [.b 1 3], (some (24, true))⟩, ⟨(some 28), .ld 1 false, [.l 27], (some (24, true))⟩, ⟨(some 29), .call 25, [.l 26, .l 28], (some (24, true))⟩, ⟨(some 30), .pick, [.l 24, .l 29, .c (.bool false)], none⟩, ⟨(some 4), .mv, [.l 30], none⟩] [(4, 2)] none
def c12_2 : IC := .seq c12_1 .ret
def c12_3 : IC := .seq c12_0 c12_2
def c12 : IFun := ⟨2, [.v 2 4], c12_3⟩
theorem comp12 : compile Try.prog Try.f12 [4] [2, 3] = some c12 := by kernel_rfl
theorem go12 {args : List Value} (hl : args.length = 2) {H : Heap} {Q : List Value → Heap → Prop} (h : ∀ C, Ok pg C → W pg C c12_3 ⟨args.map some ++ List.replicate 1 none, List.replicate 2 [], H⟩ (Fin [.v 2 4] Q)) : ICall pg 12 args H Q :=
  call_go Try.func12 (by kernel_rfl) mixed comp12 hl h
/-- spec.l10Draw -/
def c13_0 : IC := .reg [⟨(some 2), .mv, [.c (.slice none 0 0)], none⟩, ⟨(some 3), .mv, [.c (.slice none 0 0)], none⟩, ⟨(some 4), .mv, [.c (.slice none 0 0)], none⟩, ⟨(some 5), .mv, [.c (.int .i64 0)], none⟩] [(2, 1), (3, 2), (4, 3), (5, 4)] none
def c13_1 : IC := .reg [⟨(some 12), .mv, [.v 0 0], none⟩, ⟨(some 13), .call 26, [.l 12], none⟩, ⟨(some 11), .mv, [.l 13], none⟩, ⟨(some 14), .ex 0, [.l 11], none⟩, ⟨(some 15), .ex 1, [.l 11], none⟩, ⟨(some 6), .mv, [.l 14], none⟩, ⟨(some 7), .mv, [.l 15], none⟩] [(6, 5), (7, 6)] none
def c13_2 : IC := .reg [⟨(some 16), .mv, [.v 0 0], none⟩, ⟨(some 17), .call 27, [.l 16], none⟩, ⟨(some 8), .mv, [.l 17], none⟩] [(8, 7)] none
def c13_3 : IC := .reg [⟨(some 18), .mv, [.v 5 6], none⟩, ⟨(some 19), .mv, [.v 6 7], none⟩, ⟨(some 20), .call 28, [.l 18, .l 19], none⟩, ⟨(some 9), .mv, [.l 20], none⟩] [(9, 8)] none
def c13_4 : IC := .reg [⟨(some 24), .mv, [.v 7 8], none⟩, ⟨(some 25), .call 29, [.l 24, .c (.int .i64 8)], none⟩] [(25, 10)] none
def c13_5 : IC := .reg [⟨(some 28), .mv, [.v 8 9], none⟩, ⟨(some 29), .mv, [.v 7 8], none⟩, ⟨(some 30), .mv, [.v 8 9], none⟩, ⟨(some 31), .len, [.l 30], none⟩, ⟨(some 32), .call 29, [.l 29, .l 31], none⟩, ⟨(some 33), .bin .add .int, [.c (.int .i64 1), .l 32], none⟩, ⟨(some 34), .sl false true 5, [.l 28, .l 33], none⟩, ⟨(some 9), .mv, [.l 34], none⟩] [(9, 8)] none
def c13_6 : IC := .reg [⟨(some 37), .mv, [.v 7 8], none⟩, ⟨(some 38), .mv, [.v 8 9], none⟩, ⟨(some 39), .len, [.l 38], none⟩, ⟨(some 40), .call 29, [.l 37, .l 39], none⟩, ⟨(some 10), .mv, [.l 40], none⟩] [(10, 9)] none
def c13_7 : IC := .reg [⟨(some 41), .mv, [.v 8 9], none⟩, ⟨(some 42), .mv, [.v 9 10], none⟩, ⟨(some 43), .mv, [.v 7 8], none⟩, ⟨(some 44), .call 29, [.l 43, .c (.int .i64 4)], none⟩, ⟨(some 45), .ia 5, [.l 41, .l 42], none⟩, ⟨(some 46), .fa 1, [.l 45], none⟩, ⟨(some 47), .fa 0, [.l 46], none⟩, ⟨none, .st 1, [.l 47, .l 44], none⟩] [] none
def c13_8 : IC := .seq c13_6 c13_7
def c13_9 : IC := .reg [⟨(some 50), .mv, [.v 8 9], none⟩, ⟨(some 51), .sl true false 5, [.l 50, .c (.int .i64 1)], none⟩, ⟨(some 9), .mv, [.l 51], none⟩] [(9, 8)] none
def c13_10 : IC := .reg [⟨(some 54), .mv, [.v 8 9], none⟩, ⟨(some 55), .mv, [.v 8 9], none⟩, ⟨(some 56), .ia 5, [.l 55, .c (.int .i64 0)], none⟩, ⟨(some 57), .ld 5 true, [.l 56], none⟩, ⟨(some 58), .bs 1 5 [.int .i64 0, .int .i64 0, .slice none 0 0, .slice none 0 0, .int .i64 0] [(0, 5)], [.l 57], none⟩, ⟨(some 59), .app 5 72, [.l 54, .l 58], none⟩, ⟨(some 9), .mv, [.l 59], none⟩] [(9, 8)] none
def c13_11 : IC := .regc [⟨(some 53), .bin .eql .int, [.v 10 25, .c (.int .i64 3)], none⟩, ⟨(some 52), .mv, [.l 53], none⟩] [] none (.l 52) c13_10 .skip
def c13_12 : IC := .regc [⟨(some 49), .bin .eql .int, [.v 10 25, .c (.int .i64 2)], none⟩, ⟨(some 48), .mv, [.l 49], none⟩] [] none (.l 48) c13_9 c13_11
def c13_13 : IC := .regc [⟨(some 36), .bin .eql .int, [.v 10 25, .c (.int .i64 1)], none⟩, ⟨(some 35), .mv, [.l 36], none⟩] [] none (.l 35) c13_8 c13_12
def c13_14 : IC := .regc [⟨(some 27), .bin .eql .int, [.v 10 25, .c (.int .i64 0)], none⟩, ⟨(some 26), .mv, [.l 27], none⟩] [] none (.l 26) c13_5 c13_13
def c13_15 : IC := .block 0 c13_14
def c13_16 : IC := .seq c13_4 c13_15
def c13_17 : IC := .regc [⟨(some 21), .mv, [.v 8 9], none⟩, ⟨(some 22), .len, [.l 21], none⟩, ⟨(some 23), .bin .gtr .int, [.l 22, .c (.int .i64 0)], none⟩] [] none (.l 23) c13_16 .skip
def c13_18 : IC := .reg [⟨(some 60), .mv, [.v 5 6], none⟩, ⟨(some 61), .mv, [.v 6 7], none⟩, ⟨(some 62), .mv, [.v 8 9], none⟩, ⟨(some 63), .mv, [.v 7 8], none⟩, ⟨(some 64), .mv, [.v 6 7], none⟩, ⟨(some 65), .len, [.l 64], none⟩, ⟨(some 66), .bin .add .int, [.l 65, .c (.int .i64 1)], none⟩, ⟨(some 67), .call 29, [.l 63, .l 66], none⟩, ⟨(some 68), .mv, [.v 7 8], none⟩, ⟨(some 69), .call 29, [.l 68, .c (.int .i64 20)], none⟩, ⟨(some 70), .bin .quo .int, [.l 69, .c (.int .i64 19)], none⟩, ⟨(some 71), .bin .sub .int, [.l 67, .l 70], none⟩, ⟨(some 2), .mv, [.l 60], none⟩, ⟨(some 3), .mv, [.l 61], none⟩, ⟨(some 4), .mv, [.l 62], none⟩, ⟨(some 5), .mv, [.l 71], none⟩] [(2, 1), (3, 2), (4, 3), (5, 4)] none
def c13_19 : IC := .seq c13_18 .ret
def c13_20 : IC := .seq c13_17 c13_19
def c13_21 : IC := .seq c13_3 c13_20
def c13_22 : IC := .seq c13_2 c13_21
def c13_23 : IC := .seq c13_1 c13_22
def c13_24 : IC := .seq c13_0 c13_23
def c13 : IFun := ⟨1, [.v 1 2, .v 2 3, .v 3 4, .v 4 5], c13_24⟩
theorem comp13 : compile Try.prog Try.f13 [2, 3, 4, 5, 6, 7, 8, 9, 10, 25] [] = some c13 := by kernel_rfl
theorem go13 {args : List Value} (hl : args.length = 1) {H : Heap} {Q : List Value → Heap → Prop} (h : ∀ C, Ok pg C → W pg C c13_24 ⟨args.map some ++ List.replicate 10 none, List.replicate 0 [], H⟩ (Fin [.v 1 2, .v 2 3, .v 3 4, .v 4 5] Q)) : ICall pg 13 args H Q :=
  call_go Try.func13 (by kernel_rfl) mixed comp13 hl h
/-- impl.in -/
def c14_0 : IC := .reg [⟨(some 6), .mv, [.c (.bool false)], none⟩] [(6, 3)] none
def c14_1 : IC := .reg [⟨(some 7), .mv, [.v 0 0], none⟩, ⟨(some 8), .mv, [.v 1 1], none⟩, ⟨(some 9), .bin .geq .int, [.l 7, .l 8], none⟩, ⟨(some 10), .mv, [.l 9], none⟩, ⟨(some 11), .mv, [.v 0 0], (some (10, true))⟩, ⟨(some 12), .mv, [.v 2 2], (some (10, true))⟩, ⟨(some 13), .bin .leq .int, [.l 11, .l 12], (some (10, true))⟩, ⟨(some 14), .pick, [.l 10, .l 13, .c (.bool false)], none⟩, ⟨(some 6), .mv, [.l 14], none⟩] [(6, 3)] none
def c14_2 : IC := .seq c14_1 .ret
def c14_3 : IC := .seq c14_0 c14_2
def c14 : IFun := ⟨3, [.v 3 6], c14_3⟩
theorem comp14 : compile Try.prog Try.f14 [6] [] = some c14 := by kernel_rfl
theorem go14 {args : List Value} (hl : args.length = 3) {H : Heap} {Q : List Value → Heap → Prop} (h : ∀ C, Ok pg C → W pg C c14_3 ⟨args.map some ++ List.replicate 1 none, List.replicate 0 [], H⟩ (Fin [.v 3 6] Q)) : ICall pg 14 args H Q :=
  call_go Try.func14 (by kernel_rfl) mixed comp14 hl h
/-- impl.replayed -/
def c15_0 : IC := .reg [⟨(some 4), .bbx 0 4, [.v 1 1], none⟩, ⟨(some 6), .abx 1 [.int .i64 0, .slice none 0 0, .slice none 0 0, .int .i64 0], [], none⟩, ⟨(some 7), .mv, [.c (.bool false)], none⟩] [(7, 3)] none
def c15_1 : IC := .reg [⟨(some 10), .mv, [.v 2 2], none⟩, ⟨(some 11), .len, [.v 4 10], none⟩, ⟨(some 12), .mv, [.c (.int .i64 0)], none⟩] [(10, 4), (11, 5), (12, 6)] none
def c15_2 : IC := .reg [⟨(some 13), .bin .lss .int, [.v 6 12, .v 5 11], none⟩] [(13, 7)] none
def c15_3 : IC := .exit 0
def c15_4 : IC := .cond (.v 7 13) .skip c15_3
def c15_5 : IC := .reg [⟨(some 14), .ia 3, [.v 4 10, .v 6 12], none⟩, ⟨(some 15), .ld 3 true, [.l 14], none⟩, ⟨(some 9), .abx 2 [.int .i64 0, .int .i64 0, .int .i64 0], [], none⟩, ⟨none, .st 3, [.b 2 9, .l 15], none⟩] [] none
def c15_6 : IC := .reg [⟨(some 27), .bd [.int .i64 0, .slice none 0 0, .slice none 0 0, .int .i64 0] [], [], none⟩, ⟨none, .st 4, [.b 1 6, .l 27], none⟩, ⟨(some 7), .mv, [.c (.bool false)], none⟩] [(7, 3)] none
def c15_7 : IC := .seq c15_6 .ret
def c15_8 : IC := .regc [⟨(some 16), .fa 3, [.b 0 4], none⟩, ⟨(some 17), .ld 1 false, [.l 16], none⟩, ⟨(some 18), .bin .neq .int, [.l 17, .c (.int .i64 0)], none⟩, ⟨(some 19), .mv, [.l 18], none⟩, ⟨(some 20), .ld 3 true, [.b 2 9], (some (19, false))⟩, ⟨(some 21), .mv, [.v 0 0], (some (19, false))⟩, ⟨(some 22), .ld 4 true, [.b 0 4], (some (19, false))⟩, ⟨(some 23), .call 31, [.l 21, .l 22], (some (19, false))⟩, ⟨(some 24), .call 30, [.l 20, .l 23], (some (19, false))⟩, ⟨(some 25), .not, [.l 24], (some (19, false))⟩, ⟨(some 26), .pick, [.l 19, .c (.bool true), .l 25], none⟩] [] (some 0) (.l 26) c15_7 .skip
def c15_9 : IC := .reg [⟨(some 28), .mv, [.v 0 0], none⟩, ⟨(some 29), .ld 4 true, [.b 0 4], none⟩, ⟨(some 30), .ld 3 true, [.b 2 9], none⟩, ⟨(some 31), .call 32, [.l 28, .l 29, .l 30], none⟩, ⟨none, .st 4, [.b 0 4, .l 31], none⟩] [] none
def c15_10 : IC := .seq c15_8 c15_9
def c15_11 : IC := .seq c15_5 c15_10
def c15_12 : IC := .block 1 c15_11
def c15_13 : IC := .reg [⟨(some 32), .bin .add .int, [.v 6 12, .c (.int .i64 1)], none⟩, ⟨(some 12), .mv, [.l 32], none⟩] [(12, 6)] none
def c15_14 : IC := .seq c15_12 c15_13
def c15_15 : IC := .seq c15_4 c15_14
def c15_16 : IC := .seq c15_2 c15_15
def c15_17 : IC := .loop c15_16
def c15_18 : IC := .block 0 c15_17
def c15_19 : IC := .seq c15_1 c15_18
def c15_20 : IC := .reg [⟨(some 33), .ld 4 true, [.b 0 4], none⟩, ⟨none, .st 4, [.b 1 6, .l 33], none⟩, ⟨(some 7), .mv, [.c (.bool true)], none⟩] [(7, 3)] none
def c15_21 : IC := .seq c15_20 .ret
def c15_22 : IC := .seq c15_19 c15_21
def c15_23 : IC := .seq c15_0 c15_22
def c15 : IFun := ⟨3, [.b 1 6 4 true, .v 3 7], c15_23⟩
theorem comp15 : compile Try.prog Try.f15 [7, 10, 11, 12, 13] [4, 6, 9] = some c15 := by kernel_rfl
theorem go15 {args : List Value} (hl : args.length = 3) {H : Heap} {Q : List Value → Heap → Prop} (h : ∀ C, Ok pg C → W pg C c15_23 ⟨args.map some ++ List.replicate 5 none, List.replicate 3 [], H⟩ (Fin [.b 1 6 4 true, .v 3 7] Q)) : ICall pg 15 args H Q :=
  call_go Try.func15 (by kernel_rfl) mixed comp15 hl h
/-- impl.cloneState -/
def c16_0 : IC := .reg [⟨(some 1), .bbx 0 4, [.v 0 0], none⟩, ⟨(some 2), .abx 1 [.int .i64 0, .slice none 0 0, .slice none 0 0, .int .i64 0], [], none⟩] [] none
def c16_1 : IC := .reg [⟨(some 3), .fa 1, [.b 0 1], none⟩, ⟨(some 4), .ld 1 false, [.l 3], none⟩, ⟨(some 5), .call 33, [.l 4], none⟩, ⟨(some 6), .fa 2, [.b 0 1], none⟩, ⟨(some 7), .ld 1 false, [.l 6], none⟩, ⟨(some 8), .call 33, [.l 7], none⟩, ⟨(some 9), .fa 1, [.b 0 1], none⟩, ⟨none, .st 1, [.l 9, .l 5], none⟩, ⟨(some 10), .fa 2, [.b 0 1], none⟩, ⟨none, .st 1, [.l 10, .l 8], none⟩] [] (some 0)
def c16_2 : IC := .reg [⟨(some 11), .ld 4 true, [.b 0 1], none⟩, ⟨none, .st 4, [.b 1 2, .l 11], none⟩] [] none
def c16_3 : IC := .seq c16_2 .ret
def c16_4 : IC := .seq c16_1 c16_3
def c16_5 : IC := .seq c16_0 c16_4
def c16 : IFun := ⟨1, [.b 1 2 4 true], c16_5⟩
theorem comp16 : compile Try.prog Try.f16 [] [1, 2] = some c16 := by kernel_rfl
theorem go16 {args : List Value} (hl : args.length = 1) {H : Heap} {Q : List Value → Heap → Prop} (h : ∀ C, Ok pg C → W pg C c16_5 ⟨args.map some ++ List.replicate 0 none, List.replicate 2 [], H⟩ (Fin [.b 1 2 4 true] Q)) : ICall pg 16 args H Q :=
  call_go Try.func16 (by kernel_rfl) mixed comp16 hl h
/-- spec.l1In -/
def c17_0 : IC := .reg [⟨(some 6), .mv, [.c (.bool false)], none⟩] [(6, 3)] none
def c17_1 : IC := .reg [⟨(some 7), .mv, [.v 0 0], none⟩, ⟨(some 8), .mv, [.v 1 1], none⟩, ⟨(some 9), .bin .geq .int, [.l 7, .l 8], none⟩, ⟨(some 10), .mv, [.l 9], none⟩, ⟨(some 11), .mv, [.v 0 0], (some (10, true))⟩, ⟨(some 12), .mv, [.v 2 2], (some (10, true))⟩, ⟨(some 13), .bin .leq .int, [.l 11, .l 12], (some (10, true))⟩, ⟨(some 14), .pick, [.l 10, .l 13, .c (.bool false)], none⟩, ⟨(some 6), .mv, [.l 14], none⟩] [(6, 3)] none
def c17_2 : IC := .seq c17_1 .ret
def c17_3 : IC := .seq c17_0 c17_2
def c17 : IFun := ⟨3, [.v 3 6], c17_3⟩
theorem comp17 : compile Try.prog Try.f17 [6] [] = some c17 := by kernel_rfl
theorem go17 {args : List Value} (hl : args.length = 3) {H : Heap} {Q : List Value → Heap → Prop} (h : ∀ C, Ok pg C → W pg C c17_3 ⟨args.map some ++ List.replicate 1 none, List.replicate 0 [], H⟩ (Fin [.v 3 6] Q)) : ICall pg 17 args H Q :=
  call_go Try.func17 (by kernel_rfl) mixed comp17 hl h
/-- spec.l2Copy -/
def c18_0 : IC := .reg [⟨(some 1), .bbx 0 4, [.v 0 0], none⟩, ⟨(some 2), .abx 1 [.int .i64 0, .slice none 0 0, .slice none 0 0, .int .i64 0], [], none⟩] [] none
def c18_1 : IC := .reg [⟨(some 3), .bs 0 1 [.int .i64 0] [], [], none⟩, ⟨(some 4), .fa 1, [.b 0 1], none⟩, ⟨(some 5), .ld 1 false, [.l 4], none⟩, ⟨(some 6), .app 1 8, [.l 3, .l 5], none⟩, ⟨(some 7), .fa 1, [.b 0 1], none⟩, ⟨none, .st 1, [.l 7, .l 6], none⟩] [] none
def c18_2 : IC := .reg [⟨(some 8), .bs 0 1 [.int .i64 0] [], [], none⟩, ⟨(some 9), .fa 2, [.b 0 1], none⟩, ⟨(some 10), .ld 1 false, [.l 9], none⟩, ⟨(some 11), .app 1 8, [.l 8, .l 10], none⟩, ⟨(some 12), .fa 2, [.b 0 1], none⟩, ⟨none, .st 1, [.l 12, .l 11], none⟩] [] none
def c18_3 : IC := .reg [⟨(some 13), .ld 4 true, [.b 0 1], none⟩, ⟨none, .st 4, [.b 1 2, .l 13], none⟩] [] none
def c18_4 : IC := .seq c18_3 .ret
def c18_5 : IC := .seq c18_2 c18_4
def c18_6 : IC := .seq c18_1 c18_5
def c18_7 : IC := .seq c18_0 c18_6
def c18 : IFun := ⟨1, [.b 1 2 4 true], c18_7⟩
theorem comp18 : compile Try.prog Try.f18 [] [1, 2] = some c18 := by kernel_rfl
theorem go18 {args : List Value} (hl : args.length = 1) {H : Heap} {Q : List Value → Heap → Prop} (h : ∀ C, Ok pg C → W pg C c18_7 ⟨args.map some ++ List.replicate 0 none, List.replicate 2 [], H⟩ (Fin [.b 1 2 4 true] Q)) : ICall pg 18 args H Q :=
  call_go Try.func18 (by kernel_rfl) mixed comp18 hl h
/-- spec.l2Do -/
def c19_0 : IC := .reg [⟨(some 4), .bbx 0 4, [.v 1 1], none⟩, ⟨(some 5), .bbx 1 3, [.v 2 2], none⟩, ⟨(some 6), .abx 2 [.int .i64 0, .slice none 0 0, .slice none 0 0, .int .i64 0], [], none⟩, ⟨(some 7), .mv, [.c (.bool false)], none⟩] [(7, 3)] none
def c19_1 : IC := .reg [⟨(some 10), .mv, [.v 0 0], none⟩, ⟨(some 11), .ld 4 true, [.b 0 4], none⟩, ⟨(some 12), .call 34, [.l 10, .l 11], none⟩, ⟨(some 8), .abx 3 [.int .i64 0, .int .i64 0, .int .i64 0], [], none⟩, ⟨none, .st 3, [.b 3 8, .l 12], none⟩] [] none
def c19_2 : IC := .reg [⟨(some 13), .ld 4 true, [.b 0 4], none⟩, ⟨(some 14), .call 18, [.l 13], none⟩, ⟨(some 9), .abx 4 [.int .i64 0, .slice none 0 0, .slice none 0 0, .int .i64 0], [], none⟩, ⟨none, .st 4, [.b 4 9, .l 14], none⟩] [] none
def c19_3 : IC := .reg [⟨(some 46), .ld 4 true, [.b 4 9], none⟩, ⟨none, .st 4, [.b 2 6, .l 46], none⟩, ⟨(some 7), .mv, [.c (.bool false)], none⟩] [(7, 3)] none
def c19_4 : IC := .seq c19_3 .ret
def c19_5 : IC := .regc [⟨(some 19), .fa 0, [.b 1 5], none⟩, ⟨(some 20), .ld 1 false, [.l 19], none⟩, ⟨(some 21), .bin .neq .int, [.l 20, .c (.int .i64 3)], none⟩, ⟨(some 22), .mv, [.l 21], none⟩, ⟨(some 23), .fa 2, [.b 1 5], (some (22, false))⟩, ⟨(some 24), .ld 1 false, [.l 23], (some (22, false))⟩, ⟨(some 25), .call 35, [.l 24], (some (22, false))⟩, ⟨(some 26), .not, [.l 25], (some (22, false))⟩, ⟨(some 27), .pick, [.l 22, .c (.bool true), .l 26], none⟩, ⟨(some 28), .mv, [.l 27], none⟩, ⟨(some 29), .fa 1, [.b 3 8], (some (28, false))⟩, ⟨(some 30), .ld 1 false, [.l 29], (some (28, false))⟩, ⟨(some 31), .bin .neq .int, [.l 30, .c (.int .i64 9)], (some (28, false))⟩, ⟨(some 32), .mv, [.l 31], (some (28, false))⟩, ⟨(some 33), .fa 1, [.b 1 5], (some (32, true))⟩, ⟨(some 34), .ld 1 false, [.l 33], (some (32, true))⟩, ⟨(some 35), .fa 1, [.b 3 8], (some (32, true))⟩, ⟨(some 36), .ld 1 false, [.l 35], (some (32, true))⟩, ⟨(some 37), .bin .neq .int, [.l 34, .l 36], (some (32, true))⟩, ⟨(some 38), .pick, [.l 32, .l 37, .c (.bool false)], (some (28, false))⟩, ⟨(some 39), .pick, [.l 28, .c (.bool true), .l 38], none⟩, ⟨(some 40), .mv, [.l 39], none⟩, ⟨(some 41), .fa 1, [.b 1 5], (some (40, false))⟩, ⟨(some 42), .ld 1 false, [.l 41], (some (40, false))⟩, ⟨(some 43), .call 17, [.l 42, .c (.int .i64 0), .c (.int .i64 3)], (some (40, false))⟩, ⟨(some 44), .not, [.l 43], (some (40, false))⟩, ⟨(some 45), .pick, [.l 40, .c (.bool true), .l 44], none⟩] [] none (.l 45) c19_4 .skip
def c19_6 : IC := .reg [⟨(some 47), .fa 1, [.b 4 9], none⟩, ⟨(some 48), .ld 1 false, [.l 47], none⟩, ⟨(some 49), .mv, [.v 0 0], none⟩, ⟨(some 50), .fa 0, [.b 0 4], none⟩, ⟨(some 51), .ld 1 false, [.l 50], none⟩, ⟨(some 52), .ia 5, [.l 49, .l 51], none⟩, ⟨(some 53), .fa 1, [.l 52], none⟩, ⟨(some 54), .ld 1 false, [.l 53], none⟩, ⟨(some 55), .fa 2, [.b 1 5], none⟩, ⟨(some 56), .ld 1 false, [.l 55], none⟩, ⟨(some 57), .ia 1, [.l 48, .l 54], none⟩, ⟨none, .st 1, [.l 57, .l 56], none⟩] [] (some 0)
def c19_7 : IC := .reg [⟨(some 58), .mv, [.v 0 0], none⟩, ⟨(some 59), .ld 4 true, [.b 4 9], none⟩, ⟨(some 60), .call 36, [.l 58, .l 59], none⟩, ⟨none, .st 4, [.b 2 6, .l 60], none⟩, ⟨(some 7), .mv, [.c (.bool true)], none⟩] [(7, 3)] none
def c19_8 : IC := .seq c19_7 .ret
def c19_9 : IC := .seq c19_6 c19_8
def c19_10 : IC := .seq c19_5 c19_9
def c19_11 : IC := .reg [⟨(some 65), .ld 4 true, [.b 4 9], none⟩, ⟨none, .st 4, [.b 2 6, .l 65], none⟩, ⟨(some 7), .mv, [.c (.bool false)], none⟩] [(7, 3)] none
def c19_12 : IC := .seq c19_11 .ret
def c19_13 : IC := .reg [⟨(some 74), .ld 4 true, [.b 4 9], none⟩, ⟨(some 75), .call 37, [.l 74], none⟩, ⟨none, .st 4, [.b 2 6, .l 75], none⟩, ⟨(some 7), .mv, [.c (.bool true)], none⟩] [(7, 3)] none
def c19_14 : IC := .seq c19_13 .ret
def c19_15 : IC := .regc [⟨(some 70), .fa 2, [.b 0 4], none⟩, ⟨(some 71), .ld 1 false, [.l 70], none⟩, ⟨(some 72), .len, [.l 71], none⟩, ⟨(some 73), .bin .eql .int, [.l 72, .c (.int .i64 60)], none⟩] [] none (.l 73) c19_14 .skip
def c19_16 : IC := .reg [⟨(some 76), .fa 2, [.b 4 9], none⟩, ⟨(some 77), .ld 1 false, [.l 76], none⟩, ⟨(some 78), .fa 2, [.b 1 5], none⟩, ⟨(some 79), .ld 1 false, [.l 78], none⟩, ⟨(some 80), .bs 1 1 [.int .i64 0] [(0, 1)], [.l 79], none⟩, ⟨(some 81), .app 1 8, [.l 77, .l 80], none⟩, ⟨(some 82), .fa 2, [.b 4 9], none⟩, ⟨none, .st 1, [.l 82, .l 81], none⟩] [] none
def c19_17 : IC := .reg [⟨(some 83), .mv, [.v 0 0], none⟩, ⟨(some 84), .ld 4 true, [.b 4 9], none⟩, ⟨(some 85), .call 36, [.l 83, .l 84], none⟩, ⟨none, .st 4, [.b 2 6, .l 85], none⟩, ⟨(some 7), .mv, [.c (.bool true)], none⟩] [(7, 3)] none
def c19_18 : IC := .seq c19_17 .ret
def c19_19 : IC := .seq c19_16 c19_18
def c19_20 : IC := .seq c19_15 c19_19
def c19_21 : IC := .reg [⟨(some 90), .mv, [.v 0 0], none⟩, ⟨(some 91), .ld 4 true, [.b 4 9], none⟩, ⟨(some 92), .call 36, [.l 90, .l 91], none⟩, ⟨none, .st 4, [.b 2 6, .l 92], none⟩, ⟨(some 7), .mv, [.c (.bool true)], none⟩] [(7, 3)] none
def c19_22 : IC := .seq c19_21 .ret
def c19_23 : IC := .regc [⟨(some 87), .fa 0, [.b 3 8], none⟩, ⟨(some 88), .ld 1 false, [.l 87], none⟩, ⟨(some 89), .bin .eql .int, [.l 88, .c (.int .i64 2)], none⟩, ⟨(some 86), .mv, [.l 89], none⟩] [] none (.l 86) c19_22 .skip
def c19_24 : IC := .regc [⟨(some 67), .fa 0, [.b 3 8], none⟩, ⟨(some 68), .ld 1 false, [.l 67], none⟩, ⟨(some 69), .bin .eql .int, [.l 68, .c (.int .i64 4)], none⟩, ⟨(some 66), .mv, [.l 69], none⟩] [] none (.l 66) c19_20 c19_23
def c19_25 : IC := .regc [⟨(some 62), .ld 3 true, [.b 1 5], none⟩, ⟨(some 63), .ld 3 true, [.b 3 8], none⟩, ⟨(some 64), .bin .neq (.st [(0, false), (1, false), (2, false)]), [.l 62, .l 63], none⟩, ⟨(some 61), .mv, [.l 64], none⟩] [] none (.l 61) c19_12 c19_24
def c19_26 : IC := .regc [⟨(some 16), .fa 0, [.b 3 8], none⟩, ⟨(some 17), .ld 1 false, [.l 16], none⟩, ⟨(some 18), .bin .eql .int, [.l 17, .c (.int .i64 3)], none⟩, ⟨(some 15), .mv, [.l 18], none⟩] [] none (.l 15) c19_10 c19_25
def c19_27 : IC := .block 0 c19_26
def c19_28 : IC := .reg [⟨(some 93), .mv, [.v 0 0], none⟩, ⟨(some 94), .ld 4 true, [.b 4 9], none⟩, ⟨(some 95), .call 38, [.l 93, .l 94], none⟩, ⟨none, .st 4, [.b 2 6, .l 95], none⟩, ⟨(some 7), .mv, [.c (.bool true)], none⟩] [(7, 3)] none
def c19_29 : IC := .seq c19_28 .ret
def c19_30 : IC := .seq c19_27 c19_29
def c19_31 : IC := .seq c19_2 c19_30
def c19_32 : IC := .seq c19_1 c19_31
def c19_33 : IC := .seq c19_0 c19_32
def c19 : IFun := ⟨3, [.b 2 6 4 true, .v 3 7], c19_33⟩
theorem comp19 : compile Try.prog Try.f19 [7] [4, 5, 6, 8, 9] = some c19 := by kernel_rfl
theorem go19 {args : List Value} (hl : args.length = 3) {H : Heap} {Q : List Value → Heap → Prop} (h : ∀ C, Ok pg C → W pg C c19_33 ⟨args.map some ++ List.replicate 1 none, List.replicate 5 [], H⟩ (Fin [.b 2 6 4 true, .v 3 7] Q)) : ICall pg 19 args H Q :=
  call_go Try.func19 (by kernel_rfl) mixed comp19 hl h
/-- impl.sameState -/
def c20_0 : IC := .reg [⟨(some 2), .bbx 0 4, [.v 0 0], none⟩, ⟨(some 3), .bbx 1 4, [.v 1 1], none⟩, ⟨(some 4), .mv, [.c (.bool false)], none⟩] [(4, 2)] none
def c20_1 : IC := .reg [⟨(some 5), .fa 0, [.b 0 2], none⟩, ⟨(some 6), .ld 1 false, [.l 5], none⟩, ⟨(some 7), .fa 0, [.b 1 3], none⟩, ⟨(some 8), .ld 1 false, [.l 7], none⟩, ⟨(some 9), .bin .eql .int, [.l 6, .l 8], none⟩, ⟨(some 10), .mv, [.l 9], none⟩, ⟨(some 11), .fa 3, [.b 0 2], (some (10, true))⟩, ⟨(some 12), .ld 1 false, [.l 11], (some (10, true))⟩, ⟨(some 13), .fa 3, [.b 1 3], (some (10, true))⟩, ⟨(some 14), .ld 1 false, [.l 13], (some (10, true))⟩, ⟨(some 15), .bin .eql .int, [.l 12, .l 14], (some (10, true))⟩, ⟨(some 16), .pick, [.l 10, .l 15, .c (.bool false)], none⟩, ⟨(some 17), .mv, [.l 16], none⟩, ⟨(some 18), .fa 1, [.b 0 2], (some (17, true))⟩, ⟨(some 19), .ld 1 false, [.l 18], (some (17, true))⟩, ⟨(some 20), .fa 1, [.b 1 3], (some (17, true))⟩, ⟨(some 21), .ld 1 false, [.l 20], (some (17, true))⟩, ⟨(some 22), .call 39, [.l 19, .l 21], (some (17, true))⟩, ⟨(some 23), .pick, [.l 17, .l 22, .c (.bool false)], none⟩, ⟨(some 24), .mv, [.l 23], none⟩, ⟨(some 25), .fa 2, [.b 0 2], (some (24, true))⟩, ⟨(some 26), .ld 1 false, [.l 25], (some (24, true))⟩, ⟨(some 27), .fa 2, [.b 1 3], (some (24, true))⟩, ⟨(some 28), .ld 1 false, [.l 27], (some (24, true))⟩, ⟨(some 29), .call 39, [.l 26, .l 28], (some (24, true))⟩, ⟨(some 30), .pick, [.l 24, .l 29, .c (.bool false)], none⟩, ⟨(some 4), .mv, [.l 30], none⟩] [(4, 2)] none
def c20_2 : IC := .seq c20_1 .ret
def c20_3 : IC := .seq c20_0 c20_2
def c20 : IFun := ⟨2, [.v 2 4], c20_3⟩
theorem comp20 : compile Try.prog Try.f20 [4] [2, 3] = some c20 := by kernel_rfl
theorem go20 {args : List Value} (hl : args.length = 2) {H : Heap} {Q : List Value → Heap → Prop} (h : ∀ C, Ok pg C → W pg C c20_3 ⟨args.map some ++ List.replicate 1 none, List.replicate 2 [], H⟩ (Fin [.v 2 4] Q)) : ICall pg 20 args H Q :=
  call_go Try.func20 (by kernel_rfl) mixed comp20 hl h
/-- spec.Replay -/
def c21_0 : IC := .reg [⟨(some 4), .abx 0 [.int .i64 0, .slice none 0 0, .slice none 0 0, .int .i64 0], [], none⟩, ⟨(some 5), .mv, [.c (.bool false)], none⟩] [(5, 2)] none
def c21_1 : IC := .reg [⟨(some 14), .bd [.int .i64 0, .slice none 0 0, .slice none 0 0, .int .i64 0] [], [], none⟩, ⟨none, .st 4, [.b 0 4, .l 14], none⟩, ⟨(some 5), .mv, [.c (.bool false)], none⟩] [(5, 2)] none
def c21_2 : IC := .seq c21_1 .ret
def c21_3 : IC := .regc [⟨(some 6), .mv, [.v 0 0], none⟩, ⟨(some 7), .call 40, [.l 6, .c (.int .i64 4)], none⟩, ⟨(some 8), .not, [.l 7], none⟩, ⟨(some 9), .mv, [.l 8], none⟩, ⟨(some 10), .mv, [.v 1 1], (some (9, false))⟩, ⟨(some 11), .len, [.l 10], (some (9, false))⟩, ⟨(some 12), .bin .gtr .int, [.l 11, .c (.int .i64 200)], (some (9, false))⟩, ⟨(some 13), .pick, [.l 9, .c (.bool true), .l 12], none⟩] [] none (.l 13) c21_2 .skip
def c21_4 : IC := .reg [⟨(some 15), .mv, [.v 0 0], none⟩, ⟨(some 16), .mv, [.v 1 1], none⟩, ⟨(some 17), .call 41, [.l 15, .l 16], none⟩, ⟨(some 18), .ex 0, [.l 17], none⟩, ⟨(some 19), .ex 1, [.l 17], none⟩, ⟨none, .st 4, [.b 0 4, .l 18], none⟩, ⟨(some 5), .mv, [.l 19], none⟩] [(5, 2)] none
def c21_5 : IC := .seq c21_4 .ret
def c21_6 : IC := .seq c21_3 c21_5
def c21_7 : IC := .seq c21_0 c21_6
def c21 : IFun := ⟨2, [.b 0 4 4 true, .v 2 5], c21_7⟩
theorem comp21 : compile Try.prog Try.f21 [5] [4] = some c21 := by kernel_rfl
theorem go21 {args : List Value} (hl : args.length = 2) {H : Heap} {Q : List Value → Heap → Prop} (h : ∀ C, Ok pg C → W pg C c21_7 ⟨args.map some ++ List.replicate 1 none, List.replicate 1 [], H⟩ (Fin [.b 0 4 4 true, .v 2 5] Q)) : ICall pg 21 args H Q :=
  call_go Try.func21 (by kernel_rfl) mixed comp21 hl h
/-- spec.l4SameState -/
def c22_0 : IC := .reg [⟨(some 2), .bbx 0 4, [.v 0 0], none⟩, ⟨(some 3), .bbx 1 4, [.v 1 1], none⟩, ⟨(some 4), .mv, [.c (.bool false)], none⟩] [(4, 2)] none
def c22_1 : IC := .reg [⟨(some 4), .mv, [.c (.bool false)], none⟩] [(4, 2)] none
def c22_2 : IC := .seq c22_1 .ret
def c22_3 : IC := .regc [⟨(some 7), .fa 0, [.b 0 2], none⟩, ⟨(some 8), .ld 1 false, [.l 7], none⟩, ⟨(some 9), .fa 0, [.b 1 3], none⟩, ⟨(some 10), .ld 1 false, [.l 9], none⟩, ⟨(some 11), .bin .neq .int, [.l 8, .l 10], none⟩, ⟨(some 12), .mv, [.l 11], none⟩, ⟨(some 13), .fa 3, [.b 0 2], (some (12, false))⟩, ⟨(some 14), .ld 1 false, [.l 13], (some (12, false))⟩, ⟨(some 15), .fa 3, [.b 1 3], (some (12, false))⟩, ⟨(some 16), .ld 1 false, [.l 15], (some (12, false))⟩, ⟨(some 17), .bin .neq .int, [.l 14, .l 16], (some (12, false))⟩, ⟨(some 18), .pick, [.l 12, .c (.bool true), .l 17], none⟩, ⟨(some 19), .mv, [.l 18], none⟩, ⟨(some 20), .fa 1, [.b 0 2], (some (19, false))⟩, ⟨(some 21), .ld 1 false, [.l 20], (some (19, false))⟩, ⟨(some 22), .len, [.l 21], (some (19, false))⟩, ⟨(some 23), .fa 1, [.b 1 3], (some (19, false))⟩, ⟨(some 24), .ld 1 false, [.l 23], (some (19, false))⟩, ⟨(some 25), .len, [.l 24], (some (19, false))⟩, ⟨(some 26), .bin .neq .int, [.l 22, .l 25], (some (19, false))⟩, ⟨(some 27), .pick, [.l 19, .c (.bool true), .l 26], none⟩, ⟨(some 28), .mv, [.l 27], none⟩, ⟨(some 29), .fa 2, [.b 0 2], (some (28, false))⟩, ⟨(some 30), .ld 1 false, [.l 29], (some (28, false))⟩, ⟨(some 31), .len, [.l 30], (some (28, false))⟩, ⟨(some 32), .fa 2, [.b 1 3], (some (28, false))⟩, ⟨(some 33), .ld 1 false, [.l 32], (some (28, false))⟩, ⟨(some 34), .len, [.l 33], (some (28, false))⟩, ⟨(some 35), .bin .neq .int, [.l 31, .l 34], (some (28, false))⟩, ⟨(some 36), .pick, [.l 28, .c (.bool true), .l 35], none⟩] [] none (.l 36) c22_2 .skip
def c22_4 : IC := .reg [⟨(some 5), .mv, [.c (.int .i64 0)], none⟩] [(5, 3)] none
def c22_5 : IC := .exit 0
def c22_6 : IC := .regc [⟨(some 37), .mv, [.v 3 5], none⟩, ⟨(some 38), .fa 1, [.b 0 2], none⟩, ⟨(some 39), .ld 1 false, [.l 38], none⟩, ⟨(some 40), .len, [.l 39], none⟩, ⟨(some 41), .bin .lss .int, [.l 37, .l 40], none⟩] [] none (.l 41) .skip c22_5
def c22_7 : IC := .reg [⟨(some 4), .mv, [.c (.bool false)], none⟩] [(4, 2)] none
def c22_8 : IC := .seq c22_7 .ret
def c22_9 : IC := .regc [⟨(some 44), .fa 1, [.b 0 2], none⟩, ⟨(some 45), .ld 1 false, [.l 44], none⟩, ⟨(some 46), .mv, [.v 3 5], none⟩, ⟨(some 47), .ia 1, [.l 45, .l 46], none⟩, ⟨(some 48), .ld 1 false, [.l 47], none⟩, ⟨(some 49), .fa 1, [.b 1 3], none⟩, ⟨(some 50), .ld 1 false, [.l 49], none⟩, ⟨(some 51), .mv, [.v 3 5], none⟩, ⟨(some 52), .ia 1, [.l 50, .l 51], none⟩, ⟨(some 53), .ld 1 false, [.l 52], none⟩, ⟨(some 54), .bin .neq .int, [.l 48, .l 53], none⟩] [] (some 10) (.l 54) c22_8 .skip
def c22_10 : IC := .block 1 c22_9
def c22_11 : IC := .reg [⟨(some 42), .mv, [.v 3 5], none⟩, ⟨(some 43), .bin .add .int, [.l 42, .c (.int .i64 1)], none⟩, ⟨(some 5), .mv, [.l 43], none⟩] [(5, 3)] none
def c22_12 : IC := .seq c22_10 c22_11
def c22_13 : IC := .seq c22_6 c22_12
def c22_14 : IC := .loop c22_13
def c22_15 : IC := .block 0 c22_14
def c22_16 : IC := .seq c22_4 c22_15
def c22_17 : IC := .reg [⟨(some 6), .mv, [.c (.int .i64 0)], none⟩] [(6, 4)] none
def c22_18 : IC := .exit 2
def c22_19 : IC := .regc [⟨(some 55), .mv, [.v 4 6], none⟩, ⟨(some 56), .fa 2, [.b 0 2], none⟩, ⟨(some 57), .ld 1 false, [.l 56], none⟩, ⟨(some 58), .len, [.l 57], none⟩, ⟨(some 59), .bin .lss .int, [.l 55, .l 58], none⟩] [] none (.l 59) .skip c22_18
def c22_20 : IC := .reg [⟨(some 4), .mv, [.c (.bool false)], none⟩] [(4, 2)] none
def c22_21 : IC := .seq c22_20 .ret
def c22_22 : IC := .regc [⟨(some 62), .fa 2, [.b 0 2], none⟩, ⟨(some 63), .ld 1 false, [.l 62], none⟩, ⟨(some 64), .mv, [.v 4 6], none⟩, ⟨(some 65), .ia 1, [.l 63, .l 64], none⟩, ⟨(some 66), .ld 1 false, [.l 65], none⟩, ⟨(some 67), .fa 2, [.b 1 3], none⟩, ⟨(some 68), .ld 1 false, [.l 67], none⟩, ⟨(some 69), .mv, [.v 4 6], none⟩, ⟨(some 70), .ia 1, [.l 68, .l 69], none⟩, ⟨(some 71), .ld 1 false, [.l 70], none⟩, ⟨(some 72), .bin .neq .int, [.l 66, .l 71], none⟩] [] (some 10) (.l 72) c22_21 .skip
def c22_23 : IC := .block 3 c22_22
def c22_24 : IC := .reg [⟨(some 60), .mv, [.v 4 6], none⟩, ⟨(some 61), .bin .add .int, [.l 60, .c (.int .i64 1)], none⟩, ⟨(some 6), .mv, [.l 61], none⟩] [(6, 4)] none
def c22_25 : IC := .seq c22_23 c22_24
def c22_26 : IC := .seq c22_19 c22_25
def c22_27 : IC := .loop c22_26
def c22_28 : IC := .block 2 c22_27
def c22_29 : IC := .seq c22_17 c22_28
def c22_30 : IC := .reg [⟨(some 4), .mv, [.c (.bool true)], none⟩] [(4, 2)] none
def c22_31 : IC := .seq c22_30 .ret
def c22_32 : IC := .seq c22_29 c22_31
def c22_33 : IC := .seq c22_16 c22_32
def c22_34 : IC := .seq c22_3 c22_33
def c22_35 : IC := .seq c22_0 c22_34
def c22 : IFun := ⟨2, [.v 2 4], c22_35⟩
theorem comp22 : compile Try.prog Try.f22 [4, 5, 6] [2, 3] = some c22 := by kernel_rfl
theorem go22 {args : List Value} (hl : args.length = 2) {H : Heap} {Q : List Value → Heap → Prop} (h : ∀ C, Ok pg C → W pg C c22_35 ⟨args.map some ++ List.replicate 3 none, List.replicate 2 [], H⟩ (Fin [.v 2 4] Q)) : ICall pg 22 args H Q :=
  call_go Try.func22 (by kernel_rfl) mixed comp22 hl h
/-- impl.ProgOk -/
def c23_0 : IC := .reg [⟨(some 2), .bh 1, [.v 0 0], none⟩, ⟨(some 3), .bh 1, [.v 1 1], none⟩, ⟨(some 4), .mv, [.c (.bool false)], none⟩] [(2, 2), (3, 3), (4, 4)] none
def c23_1 : IC := .reg [⟨(some 5), .ld 1 false, [.v 2 2], none⟩, ⟨(some 6), .len, [.l 5], none⟩, ⟨(some 7), .call 14, [.l 6, .c (.int .i64 1), .c (.int .i64 30)], none⟩, ⟨(some 8), .mv, [.l 7], none⟩, ⟨(some 9), .ld 1 false, [.v 2 2], (some (8, true))⟩, ⟨(some 10), .mf 43, [.v 2 2, .v 3 3], (some (8, true))⟩, ⟨(some 11), .call 42, [.l 9, .l 10], (some (8, true))⟩, ⟨(some 12), .not, [.l 11], (some (8, true))⟩, ⟨(some 13), .pick, [.l 8, .l 12, .c (.bool false)], none⟩, ⟨(some 4), .mv, [.l 13], none⟩] [(4, 4)] none
def c23_2 : IC := .seq c23_1 .ret
def c23_3 : IC := .seq c23_0 c23_2
def c23 : IFun := ⟨2, [.v 4 4], c23_3⟩
theorem comp23 : compile Try.prog Try.f23 [2, 3, 4] [] = some c23 := by kernel_rfl
theorem go23 {args : List Value} (hl : args.length = 2) {H : Heap} {Q : List Value → Heap → Prop} (h : ∀ C, Ok pg C → W pg C c23_3 ⟨args.map some ++ List.replicate 3 none, List.replicate 0 [], H⟩ (Fin [.v 4 4] Q)) : ICall pg 23 args H Q :=
  call_go Try.func23 (by kernel_rfl) mixed comp23 hl h
end Go.Proofs.Ytpnbojehfngigaa.IM

/- The small codes of the functions, printed by a program of this claim; each is held against the loaded function by the kernel. -/
namespace Go.Proofs.Ytpnbojehfngigaa.IM
open Go Go.Proofs
set_option linter.unusedVariables false
set_option maxRecDepth 100000
/-- impl.StateNew -/
def c24_0 : IC := .reg [⟨(some 0), .abx 0 [.int .i64 0, .slice none 0 0, .slice none 0 0, .int .i64 0], [], none⟩] [] none
def c24_1 : IC := .reg [⟨(some 1), .mk [.int .i64 0] 8, [.c (.int .i64 4), .c (.int .i64 4)], none⟩, ⟨(some 2), .bd [.int .i64 0, .slice none 0 0, .slice none 0 0, .int .i64 0] [(1, 1)], [.l 1], none⟩, ⟨none, .st 4, [.b 0 0, .l 2], none⟩] [] none
def c24_2 : IC := .seq c24_1 .ret
def c24_3 : IC := .seq c24_0 c24_2
def c24 : IFun := ⟨0, [.b 0 0 4 true], c24_3⟩
theorem comp24 : compile Try.prog Try.f24 [] [0] = some c24 := by kernel_rfl
theorem go24 {args : List Value} (hl : args.length = 0) {H : Heap} {Q : List Value → Heap → Prop} (h : ∀ C, Ok pg C → W pg C c24_3 ⟨args.map some ++ List.replicate 0 none, List.replicate 1 [], H⟩ (Fin [.b 0 0 4 true] Q)) : ICall pg 24 args H Q :=
  call_go Try.func24 (by kernel_rfl) mixed comp24 hl h
/-- laws.sameInts -/
def c25_0 : IC := .reg [⟨(some 4), .mv, [.c (.bool false)], none⟩] [(4, 2)] none
def c25_1 : IC := .reg [⟨(some 4), .mv, [.c (.bool false)], none⟩] [(4, 2)] none
def c25_2 : IC := .seq c25_1 .ret
def c25_3 : IC := .regc [⟨(some 6), .mv, [.v 0 0], none⟩, ⟨(some 7), .len, [.l 6], none⟩, ⟨(some 8), .mv, [.v 1 1], none⟩, ⟨(some 9), .len, [.l 8], none⟩, ⟨(some 10), .bin .neq .int, [.l 7, .l 9], none⟩] [] none (.l 10) c25_2 .skip
def c25_4 : IC := .reg [⟨(some 5), .mv, [.c (.int .i64 0)], none⟩] [(5, 3)] none
def c25_5 : IC := .exit 0
def c25_6 : IC := .regc [⟨(some 11), .mv, [.v 3 5], none⟩, ⟨(some 12), .mv, [.v 0 0], none⟩, ⟨(some 13), .len, [.l 12], none⟩, ⟨(some 14), .bin .lss .int, [.l 11, .l 13], none⟩] [] none (.l 14) .skip c25_5
def c25_7 : IC := .reg [⟨(some 4), .mv, [.c (.bool false)], none⟩] [(4, 2)] none
def c25_8 : IC := .seq c25_7 .ret
def c25_9 : IC := .regc [⟨(some 17), .mv, [.v 0 0], none⟩, ⟨(some 18), .mv, [.v 3 5], none⟩, ⟨(some 19), .ia 1, [.l 17, .l 18], none⟩, ⟨(some 20), .ld 1 false, [.l 19], none⟩, ⟨(some 21), .mv, [.v 1 1], none⟩, ⟨(some 22), .mv, [.v 3 5], none⟩, ⟨(some 23), .ia 1, [.l 21, .l 22], none⟩, ⟨(some 24), .ld 1 false, [.l 23], none⟩, ⟨(some 25), .bin .neq .int, [.l 20, .l 24], none⟩] [] (some 8) (.l 25) c25_8 .skip
def c25_10 : IC := .block 1 c25_9
def c25_11 : IC := .reg [⟨(some 15), .mv, [.v 3 5], none⟩, ⟨(some 16), .bin .add .int, [.l 15, .c (.int .i64 1)], none⟩, ⟨(some 5), .mv, [.l 16], none⟩] [(5, 3)] none
def c25_12 : IC := .seq c25_10 c25_11
def c25_13 : IC := .seq c25_6 c25_12
def c25_14 : IC := .loop c25_13
def c25_15 : IC := .block 0 c25_14
def c25_16 : IC := .seq c25_4 c25_15
def c25_17 : IC := .reg [⟨(some 4), .mv, [.c (.bool true)], none⟩] [(4, 2)] none
def c25_18 : IC := .seq c25_17 .ret
def c25_19 : IC := .seq c25_16 c25_18
def c25_20 : IC := .seq c25_3 c25_19
def c25_21 : IC := .seq c25_0 c25_20
def c25 : IFun := ⟨2, [.v 2 4], c25_21⟩
theorem comp25 : compile Try.prog Try.f25 [4, 5] [] = some c25 := by kernel_rfl
theorem go25 {args : List Value} (hl : args.length = 2) {H : Heap} {Q : List Value → Heap → Prop} (h : ∀ C, Ok pg C → W pg C c25_21 ⟨args.map some ++ List.replicate 2 none, List.replicate 0 [], H⟩ (Fin [.v 2 4] Q)) : ICall pg 25 args H Q :=
  call_go Try.func25 (by kernel_rfl) mixed comp25 hl h
/-- spec.DrawReplay -/
def c26_0 : IC := .reg [⟨(some 2), .mv, [.c (.slice none 0 0)], none⟩, ⟨(some 3), .mv, [.c (.slice none 0 0)], none⟩] [(2, 1), (3, 2)] none
def c26_1 : IC := .reg [⟨(some 8), .mv, [.v 0 0], none⟩, ⟨(some 9), .call 27, [.l 8], none⟩, ⟨(some 4), .mv, [.l 9], none⟩] [(4, 3)] none
def c26_2 : IC := .reg [⟨(some 10), .mv, [.v 3 4], none⟩, ⟨(some 11), .call 45, [.l 10], none⟩, ⟨(some 5), .mv, [.l 11], none⟩] [(5, 4)] none
def c26_3 : IC := .reg [⟨(some 12), .mv, [.v 3 4], none⟩, ⟨(some 13), .mv, [.v 4 5], none⟩, ⟨(some 14), .call 46, [.l 12, .l 13], none⟩, ⟨(some 6), .mv, [.l 14], none⟩] [(6, 5)] none
def c26_4 : IC := .reg [⟨(some 18), .mv, [.v 3 4], none⟩, ⟨(some 19), .mv, [.v 5 6], none⟩, ⟨(some 20), .len, [.l 19], none⟩, ⟨(some 21), .call 29, [.l 18, .l 20], none⟩, ⟨(some 7), .mv, [.l 21], none⟩] [(7, 6)] none
def c26_5 : IC := .reg [⟨(some 22), .mv, [.v 3 4], none⟩, ⟨(some 23), .call 29, [.l 22, .c (.int .i64 8)], none⟩] [(23, 7)] none
def c26_6 : IC := .reg [⟨(some 26), .mv, [.v 5 6], none⟩, ⟨(some 27), .mv, [.v 6 7], none⟩, ⟨(some 28), .mv, [.v 3 4], none⟩, ⟨(some 29), .call 29, [.l 28, .c (.int .i64 6)], none⟩, ⟨(some 30), .ia 3, [.l 26, .l 27], none⟩, ⟨(some 31), .fa 0, [.l 30], none⟩, ⟨none, .st 1, [.l 31, .l 29], none⟩] [] none
def c26_7 : IC := .reg [⟨(some 34), .mv, [.v 5 6], none⟩, ⟨(some 35), .mv, [.v 6 7], none⟩, ⟨(some 36), .mv, [.v 3 4], none⟩, ⟨(some 37), .call 29, [.l 36, .c (.int .i64 5)], none⟩, ⟨(some 38), .ia 3, [.l 34, .l 35], none⟩, ⟨(some 39), .fa 2, [.l 38], none⟩, ⟨none, .st 1, [.l 39, .l 37], none⟩] [] none
def c26_8 : IC := .reg [⟨(some 42), .mv, [.v 5 6], none⟩, ⟨(some 43), .mv, [.v 6 7], none⟩, ⟨(some 44), .sl false true 3, [.l 42, .l 43], none⟩, ⟨(some 45), .mv, [.v 5 6], none⟩, ⟨(some 46), .mv, [.v 6 7], none⟩, ⟨(some 47), .bin .add .int, [.l 46, .c (.int .i64 1)], none⟩, ⟨(some 48), .sl true false 3, [.l 45, .l 47], none⟩, ⟨(some 49), .app 3 24, [.l 44, .l 48], none⟩, ⟨(some 6), .mv, [.l 49], none⟩] [(6, 5)] (some 7)
def c26_9 : IC := .regc [⟨(some 41), .bin .eql .int, [.v 7 23, .c (.int .i64 2)], none⟩, ⟨(some 40), .mv, [.l 41], none⟩] [] none (.l 40) c26_8 .skip
def c26_10 : IC := .regc [⟨(some 33), .bin .eql .int, [.v 7 23, .c (.int .i64 1)], none⟩, ⟨(some 32), .mv, [.l 33], none⟩] [] none (.l 32) c26_7 c26_9
def c26_11 : IC := .regc [⟨(some 25), .bin .eql .int, [.v 7 23, .c (.int .i64 0)], none⟩, ⟨(some 24), .mv, [.l 25], none⟩] [] none (.l 24) c26_6 c26_10
def c26_12 : IC := .block 0 c26_11
def c26_13 : IC := .seq c26_5 c26_12
def c26_14 : IC := .seq c26_4 c26_13
def c26_15 : IC := .regc [⟨(some 15), .mv, [.v 5 6], none⟩, ⟨(some 16), .len, [.l 15], none⟩, ⟨(some 17), .bin .gtr .int, [.l 16, .c (.int .i64 0)], none⟩] [] none (.l 17) c26_14 .skip
def c26_16 : IC := .reg [⟨(some 50), .mv, [.v 4 5], none⟩, ⟨(some 51), .mv, [.v 5 6], none⟩, ⟨(some 2), .mv, [.l 50], none⟩, ⟨(some 3), .mv, [.l 51], none⟩] [(2, 1), (3, 2)] none
def c26_17 : IC := .seq c26_16 .ret
def c26_18 : IC := .seq c26_15 c26_17
def c26_19 : IC := .seq c26_3 c26_18
def c26_20 : IC := .seq c26_2 c26_19
def c26_21 : IC := .seq c26_1 c26_20
def c26_22 : IC := .seq c26_0 c26_21
def c26 : IFun := ⟨1, [.v 1 2, .v 2 3], c26_22⟩
theorem comp26 : compile Try.prog Try.f26 [2, 3, 4, 5, 6, 7, 23] [] = some c26 := by kernel_rfl
theorem go26 {args : List Value} (hl : args.length = 1) {H : Heap} {Q : List Value → Heap → Prop} (h : ∀ C, Ok pg C → W pg C c26_22 ⟨args.map some ++ List.replicate 7 none, List.replicate 0 [], H⟩ (Fin [.v 1 2, .v 2 3] Q)) : ICall pg 26 args H Q :=
  call_go Try.func26 (by kernel_rfl) mixed comp26 hl h
/-- spec.l1New -/
def c27_0 : IC := .reg [⟨(some 2), .mv, [.c (.pointer none)], none⟩] [(2, 1)] none
def c27_1 : IC := .reg [⟨(some 5), .mv, [.v 0 0], none⟩, ⟨(some 6), .len, [.l 5], none⟩, ⟨(some 7), .bin .add .int, [.c (.int .i64 17259), .l 6], none⟩, ⟨(some 3), .mv, [.l 7], none⟩] [(3, 2)] none
def c27_2 : IC := .reg [⟨(some 4), .mv, [.c (.int .i64 0)], none⟩] [(4, 3)] none
def c27_3 : IC := .exit 0
def c27_4 : IC := .regc [⟨(some 8), .mv, [.v 3 4], none⟩, ⟨(some 9), .mv, [.v 0 0], none⟩, ⟨(some 10), .len, [.l 9], none⟩, ⟨(some 11), .bin .lss .int, [.l 8, .l 10], none⟩, ⟨(some 12), .mv, [.l 11], none⟩, ⟨(some 13), .mv, [.v 3 4], (some (12, true))⟩, ⟨(some 14), .bin .lss .int, [.l 13, .c (.int .i64 4000)], (some (12, true))⟩, ⟨(some 15), .pick, [.l 12, .l 14, .c (.bool false)], none⟩] [] none (.l 15) .skip c27_3
def c27_5 : IC := .reg [⟨(some 18), .mv, [.v 2 3], none⟩, ⟨(some 19), .bin .mul .int, [.l 18, .c (.int .i64 131)], none⟩, ⟨(some 20), .mv, [.v 0 0], none⟩, ⟨(some 21), .mv, [.v 3 4], none⟩, ⟨(some 22), .ia 1, [.l 20, .l 21], none⟩, ⟨(some 23), .ld 1 false, [.l 22], none⟩, ⟨(some 24), .cvi .i64, [.l 23], none⟩, ⟨(some 25), .bin .add .int, [.l 19, .l 24], none⟩, ⟨(some 26), .bin .add .int, [.l 25, .c (.int .i64 7)], none⟩, ⟨(some 27), .bin .and .int, [.l 26, .c (.int .i64 1073741823)], none⟩, ⟨(some 3), .mv, [.l 27], none⟩] [(3, 2)] none
def c27_6 : IC := .block 1 c27_5
def c27_7 : IC := .reg [⟨(some 16), .mv, [.v 3 4], none⟩, ⟨(some 17), .bin .add .int, [.l 16, .c (.int .i64 1)], none⟩, ⟨(some 4), .mv, [.l 17], none⟩] [(4, 3)] none
def c27_8 : IC := .seq c27_6 c27_7
def c27_9 : IC := .seq c27_4 c27_8
def c27_10 : IC := .loop c27_9
def c27_11 : IC := .block 0 c27_10
def c27_12 : IC := .seq c27_2 c27_11
def c27_13 : IC := .reg [⟨(some 28), .mv, [.v 0 0], none⟩, ⟨(some 29), .mv, [.v 2 3], none⟩, ⟨(some 30), .bd [.slice none 0 0, .int .i64 0, .int .i64 0] [(0, 1), (2, 1)], [.l 28, .l 29], none⟩, ⟨(some 31), .bh 3, [.l 30], none⟩, ⟨(some 2), .mv, [.l 31], none⟩] [(2, 1)] none
def c27_14 : IC := .seq c27_13 .ret
def c27_15 : IC := .seq c27_12 c27_14
def c27_16 : IC := .seq c27_1 c27_15
def c27_17 : IC := .seq c27_0 c27_16
def c27 : IFun := ⟨1, [.v 1 2], c27_17⟩
theorem comp27 : compile Try.prog Try.f27 [2, 3, 4] [] = some c27 := by kernel_rfl
theorem go27 {args : List Value} (hl : args.length = 1) {H : Heap} {Q : List Value → Heap → Prop} (h : ∀ C, Ok pg C → W pg C c27_17 ⟨args.map some ++ List.replicate 3 none, List.replicate 0 [], H⟩ (Fin [.v 1 2] Q)) : ICall pg 27 args H Q :=
  call_go Try.func27 (by kernel_rfl) mixed comp27 hl h
/-- spec.KeepAll -/
def c28_0 : IC := .reg [⟨(some 4), .mv, [.c (.slice none 0 0)], none⟩] [(4, 2)] none
def c28_1 : IC := .reg [⟨(some 11), .bs 0 5 [.int .i64 0, .int .i64 0, .slice none 0 0, .slice none 0 0, .int .i64 0] [], [], none⟩, ⟨(some 5), .mv, [.l 11], none⟩] [(5, 3)] none
def c28_2 : IC := .reg [⟨(some 13), .mv, [.v 0 0], none⟩, ⟨(some 14), .mv, [.v 1 1], none⟩, ⟨(some 15), .call 21, [.l 13, .l 14], none⟩, ⟨(some 12), .mv, [.l 15], none⟩, ⟨(some 16), .ex 0, [.l 12], none⟩, ⟨(some 17), .ex 1, [.l 12], none⟩, ⟨(some 6), .abx 0 [.int .i64 0, .slice none 0 0, .slice none 0 0, .int .i64 0], [], none⟩, ⟨none, .st 4, [.b 0 6, .l 16], none⟩, ⟨(some 7), .mv, [.l 17], none⟩] [(7, 4)] none
def c28_3 : IC := .reg [⟨(some 8), .mv, [.c (.int .i64 0)], none⟩] [(8, 5)] none
def c28_4 : IC := .exit 0
def c28_5 : IC := .regc [⟨(some 18), .mv, [.v 5 8], none⟩, ⟨(some 19), .mv, [.v 1 1], none⟩, ⟨(some 20), .len, [.l 19], none⟩, ⟨(some 21), .bin .leq .int, [.l 18, .l 20], none⟩, ⟨(some 22), .mv, [.l 21], none⟩, ⟨(some 23), .mv, [.v 4 7], (some (22, true))⟩, ⟨(some 24), .pick, [.l 22, .l 23, .c (.bool false)], none⟩] [] none (.l 24) .skip c28_4
def c28_6 : IC := .reg [⟨(some 28), .mv, [.v 0 0], none⟩, ⟨(some 29), .mv, [.v 1 1], none⟩, ⟨(some 30), .mv, [.v 5 8], none⟩, ⟨(some 31), .sl false true 3, [.l 29, .l 30], none⟩, ⟨(some 32), .call 21, [.l 28, .l 31], none⟩, ⟨(some 27), .mv, [.l 32], none⟩, ⟨(some 33), .ex 0, [.l 27], none⟩, ⟨(some 34), .ex 1, [.l 27], none⟩, ⟨(some 9), .abx 1 [.int .i64 0, .slice none 0 0, .slice none 0 0, .int .i64 0], [], none⟩, ⟨none, .st 4, [.b 1 9, .l 33], none⟩, ⟨(some 10), .mv, [.l 34], none⟩] [] none
def c28_7 : IC := .reg [⟨(some 35), .mv, [.v 3 5], none⟩, ⟨(some 36), .mv, [.v 5 8], none⟩, ⟨(some 37), .ld 4 true, [.b 1 9], none⟩, ⟨(some 38), .bd [.int .i64 0, .int .i64 0, .slice none 0 0, .slice none 0 0, .int .i64 0] [(0, 1), (1, 4)], [.l 36, .l 37], none⟩, ⟨(some 39), .bs 1 5 [.int .i64 0, .int .i64 0, .slice none 0 0, .slice none 0 0, .int .i64 0] [(0, 5)], [.l 38], none⟩, ⟨(some 40), .app 5 72, [.l 35, .l 39], none⟩, ⟨(some 5), .mv, [.l 40], none⟩] [(5, 3)] none
def c28_8 : IC := .seq c28_6 c28_7
def c28_9 : IC := .block 1 c28_8
def c28_10 : IC := .reg [⟨(some 25), .mv, [.v 5 8], none⟩, ⟨(some 26), .bin .add .int, [.l 25, .c (.int .i64 8)], none⟩, ⟨(some 8), .mv, [.l 26], none⟩] [(8, 5)] none
def c28_11 : IC := .seq c28_9 c28_10
def c28_12 : IC := .seq c28_5 c28_11
def c28_13 : IC := .loop c28_12
def c28_14 : IC := .block 0 c28_13
def c28_15 : IC := .seq c28_3 c28_14
def c28_16 : IC := .reg [⟨(some 41), .mv, [.v 3 5], none⟩, ⟨(some 4), .mv, [.l 41], none⟩] [(4, 2)] none
def c28_17 : IC := .seq c28_16 .ret
def c28_18 : IC := .seq c28_15 c28_17
def c28_19 : IC := .seq c28_2 c28_18
def c28_20 : IC := .seq c28_1 c28_19
def c28_21 : IC := .seq c28_0 c28_20
def c28 : IFun := ⟨2, [.v 2 4], c28_21⟩
theorem comp28 : compile Try.prog Try.f28 [4, 5, 7, 8] [6, 9] = some c28 := by kernel_rfl
theorem go28 {args : List Value} (hl : args.length = 2) {H : Heap} {Q : List Value → Heap → Prop} (h : ∀ C, Ok pg C → W pg C c28_21 ⟨args.map some ++ List.replicate 4 none, List.replicate 2 [], H⟩ (Fin [.v 2 4] Q)) : ICall pg 28 args H Q :=
  call_go Try.func28 (by kernel_rfl) mixed comp28 hl h
/-- spec.l1Below -/
def c29_0 : IC := .reg [⟨(some 4), .mv, [.c (.int .i64 0)], none⟩] [(4, 2)] none
def c29_1 : IC := .reg [⟨(some 4), .mv, [.c (.int .i64 0)], none⟩] [(4, 2)] none
def c29_2 : IC := .seq c29_1 .ret
def c29_3 : IC := .regc [⟨(some 9), .mv, [.v 1 1], none⟩, ⟨(some 10), .bin .leq .int, [.l 9, .c (.int .i64 0)], none⟩] [] none (.l 10) c29_2 .skip
def c29_4 : IC := .reg [⟨(some 13), .mv, [.v 0 0], none⟩, ⟨(some 14), .call 47, [.l 13], none⟩, ⟨(some 15), .mv, [.v 1 1], none⟩, ⟨(some 16), .bin .rem .int, [.l 14, .l 15], none⟩, ⟨(some 4), .mv, [.l 16], none⟩] [(4, 2)] none
def c29_5 : IC := .seq c29_4 .ret
def c29_6 : IC := .regc [⟨(some 11), .mv, [.v 1 1], none⟩, ⟨(some 12), .bin .leq .int, [.l 11, .c (.int .i64 256)], none⟩] [] none (.l 12) c29_5 .skip
def c29_7 : IC := .reg [⟨(some 17), .mv, [.v 0 0], none⟩, ⟨(some 18), .call 47, [.l 17], none⟩, ⟨(some 5), .mv, [.l 18], none⟩] [(5, 3)] none
def c29_8 : IC := .reg [⟨(some 19), .mv, [.v 0 0], none⟩, ⟨(some 20), .call 47, [.l 19], none⟩, ⟨(some 6), .mv, [.l 20], none⟩] [(6, 4)] none
def c29_9 : IC := .reg [⟨(some 21), .mv, [.v 0 0], none⟩, ⟨(some 22), .call 47, [.l 21], none⟩, ⟨(some 7), .mv, [.l 22], none⟩] [(7, 5)] none
def c29_10 : IC := .reg [⟨(some 23), .mv, [.v 0 0], none⟩, ⟨(some 24), .call 47, [.l 23], none⟩, ⟨(some 8), .mv, [.l 24], none⟩] [(8, 6)] none
def c29_11 : IC := .reg [⟨(some 25), .mv, [.v 3 5], none⟩, ⟨(some 26), .bin .mul .int, [.l 25, .c (.int .i64 16777216)], none⟩, ⟨(some 27), .mv, [.v 4 6], none⟩, ⟨(some 28), .bin .mul .int, [.l 27, .c (.int .i64 65536)], none⟩, ⟨(some 29), .bin .add .int, [.l 26, .l 28], none⟩, ⟨(some 30), .mv, [.v 5 7], none⟩, ⟨(some 31), .bin .mul .int, [.l 30, .c (.int .i64 256)], none⟩, ⟨(some 32), .bin .add .int, [.l 29, .l 31], none⟩, ⟨(some 33), .mv, [.v 6 8], none⟩, ⟨(some 34), .bin .add .int, [.l 32, .l 33], none⟩, ⟨(some 35), .mv, [.v 1 1], none⟩, ⟨(some 36), .bin .rem .int, [.l 34, .l 35], none⟩, ⟨(some 4), .mv, [.l 36], none⟩] [(4, 2)] none
def c29_12 : IC := .seq c29_11 .ret
def c29_13 : IC := .seq c29_10 c29_12
def c29_14 : IC := .seq c29_9 c29_13
def c29_15 : IC := .seq c29_8 c29_14
def c29_16 : IC := .seq c29_7 c29_15
def c29_17 : IC := .seq c29_6 c29_16
def c29_18 : IC := .seq c29_3 c29_17
def c29_19 : IC := .seq c29_0 c29_18
def c29 : IFun := ⟨2, [.v 2 4], c29_19⟩
theorem comp29 : compile Try.prog Try.f29 [4, 5, 6, 7, 8] [] = some c29 := by kernel_rfl
theorem go29 {args : List Value} (hl : args.length = 2) {H : Heap} {Q : List Value → Heap → Prop} (h : ∀ C, Ok pg C → W pg C c29_19 ⟨args.map some ++ List.replicate 5 none, List.replicate 0 [], H⟩ (Fin [.v 2 4] Q)) : ICall pg 29 args H Q :=
  call_go Try.func29 (by kernel_rfl) mixed comp29 hl h
/-- impl.comes -/
def c30_0 : IC := .reg [⟨(some 2), .bbx 0 3, [.v 0 0], none⟩, ⟨(some 3), .bbx 1 3, [.v 1 1], none⟩, ⟨(some 4), .mv, [.c (.bool false)], none⟩] [(4, 2)] none
def c30_1 : IC := .reg [⟨(some 13), .ld 3 true, [.b 0 2], none⟩, ⟨(some 14), .ld 3 true, [.b 1 3], none⟩, ⟨(some 15), .bin .eql (.st [(0, false), (1, false), (2, false)]), [.l 13, .l 14], none⟩, ⟨(some 4), .mv, [.l 15], none⟩] [(4, 2)] none
def c30_2 : IC := .seq c30_1 .ret
def c30_3 : IC := .regc [⟨(some 5), .fa 0, [.b 1 3], none⟩, ⟨(some 6), .ld 1 false, [.l 5], none⟩, ⟨(some 7), .bin .neq .int, [.l 6, .c (.int .i64 3)], none⟩, ⟨(some 8), .mv, [.l 7], none⟩, ⟨(some 9), .fa 0, [.b 0 2], (some (8, false))⟩, ⟨(some 10), .ld 1 false, [.l 9], (some (8, false))⟩, ⟨(some 11), .bin .neq .int, [.l 10, .c (.int .i64 3)], (some (8, false))⟩, ⟨(some 12), .pick, [.l 8, .c (.bool true), .l 11], none⟩] [] none (.l 12) c30_2 .skip
def c30_4 : IC := .reg [⟨(some 16), .fa 2, [.b 0 2], none⟩, ⟨(some 17), .ld 1 false, [.l 16], none⟩, ⟨(some 18), .call 48, [.l 17], none⟩, ⟨(some 19), .mv, [.l 18], none⟩, ⟨(some 20), .fa 1, [.b 0 2], (some (19, true))⟩, ⟨(some 21), .ld 1 false, [.l 20], (some (19, true))⟩, ⟨(some 22), .fa 1, [.b 1 3], (some (19, true))⟩, ⟨(some 23), .ld 1 false, [.l 22], (some (19, true))⟩, ⟨(some 24), .bin .eql .int, [.l 21, .l 23], (some (19, true))⟩, ⟨(some 25), .mv, [.l 24], (some (19, true))⟩, ⟨(some 26), .fa 1, [.b 1 3], (some (25, true))⟩, ⟨(some 27), .ld 1 false, [.l 26], (some (25, true))⟩, ⟨(some 28), .bin .neq .int, [.l 27, .c (.int .i64 9)], (some (25, true))⟩, ⟨(some 29), .pick, [.l 25, .l 28, .c (.bool false)], (some (19, true))⟩, ⟨(some 30), .mv, [.l 29], (some (19, true))⟩, ⟨(some 31), .fa 1, [.b 1 3], (some (30, false))⟩, ⟨(some 32), .ld 1 false, [.l 31], (some (30, false))⟩, ⟨(some 33), .bin .eql .int, [.l 32, .c (.int .i64 9)], (some (30, false))⟩, ⟨(some 34), .mv, [.l 33], (some (30, false))⟩, ⟨(some 35), .fa 1, [.b 0 2], (some (34, true))⟩, ⟨(some 36), .ld 1 false, [.l 35], (some (34, true))⟩, ⟨(some 37), .call 14, [.l 36, .c (.int .i64 0), .c (.int .i64 3)], (some (34, true))⟩, ⟨(some 38), .pick, [.l 34, .l 37, .c (.bool false)], (some (30, false))⟩, ⟨(some 39), .pick, [.l 30, .c (.bool true), .l 38], (some (19, true))⟩, ⟨(some 40), .pick, [.l 19, .l 39, .c (.bool false)], none⟩, ⟨(some 4), .mv, [.l 40], none⟩] [(4, 2)] none
def c30_5 : IC := .seq c30_4 .ret
def c30_6 : IC := .seq c30_3 c30_5
def c30_7 : IC := .seq c30_0 c30_6
def c30 : IFun := ⟨2, [.v 2 4], c30_7⟩
theorem comp30 : compile Try.prog Try.f30 [4] [2, 3] = some c30 := by kernel_rfl
theorem go30 {args : List Value} (hl : args.length = 2) {H : Heap} {Q : List Value → Heap → Prop} (h : ∀ C, Ok pg C → W pg C c30_7 ⟨args.map some ++ List.replicate 1 none, List.replicate 2 [], H⟩ (Fin [.v 2 4] Q)) : ICall pg 30 args H Q :=
  call_go Try.func30 (by kernel_rfl) mixed comp30 hl h
/-- impl.next -/
def c31_0 : IC := .reg [⟨(some 3), .bbx 0 4, [.v 1 1], none⟩, ⟨(some 4), .abx 1 [.int .i64 0, .int .i64 0, .int .i64 0], [], none⟩] [] none
def c31_1 : IC := .reg [⟨(some 6), .mv, [.v 0 0], none⟩, ⟨(some 7), .fa 0, [.b 0 3], none⟩, ⟨(some 8), .ld 1 false, [.l 7], none⟩, ⟨(some 9), .ia 5, [.l 6, .l 8], none⟩, ⟨(some 10), .ld 5 true, [.l 9], none⟩, ⟨(some 5), .abx 2 [.int .i64 0, .int .i64 0, .int .i64 0, .int .i64 0, .int .i64 0], [], none⟩, ⟨none, .st 5, [.b 2 5, .l 10], none⟩] [] none
def c31_2 : IC := .reg [⟨(some 11), .fa 0, [.b 2 5], none⟩, ⟨(some 12), .ld 1 false, [.l 11], none⟩] [(12, 2)] none
def c31_3 : IC := .reg [⟨(some 15), .fa 4, [.b 2 5], none⟩, ⟨(some 16), .ld 1 false, [.l 15], none⟩, ⟨(some 17), .fa 1, [.b 0 3], none⟩, ⟨(some 18), .ld 1 false, [.l 17], none⟩, ⟨(some 19), .fa 2, [.b 2 5], none⟩, ⟨(some 20), .ld 1 false, [.l 19], none⟩, ⟨(some 21), .ia 1, [.l 18, .l 20], none⟩, ⟨(some 22), .ld 1 false, [.l 21], none⟩, ⟨(some 23), .bd [.int .i64 0, .int .i64 0, .int .i64 0] [(0, 1), (1, 1), (2, 1)], [.c (.int .i64 2), .l 16, .l 22], none⟩, ⟨none, .st 3, [.b 1 4, .l 23], none⟩] [] (some 0)
def c31_4 : IC := .seq c31_3 .ret
def c31_5 : IC := .reg [⟨(some 26), .fa 4, [.b 2 5], none⟩, ⟨(some 27), .ld 1 false, [.l 26], none⟩, ⟨(some 28), .bd [.int .i64 0, .int .i64 0, .int .i64 0] [(0, 1), (1, 1)], [.c (.int .i64 3), .l 27], none⟩, ⟨none, .st 3, [.b 1 4, .l 28], none⟩] [] none
def c31_6 : IC := .seq c31_5 .ret
def c31_7 : IC := .reg [⟨(some 31), .fa 1, [.b 0 3], none⟩, ⟨(some 32), .ld 1 false, [.l 31], none⟩, ⟨(some 33), .fa 2, [.b 2 5], none⟩, ⟨(some 34), .ld 1 false, [.l 33], none⟩, ⟨(some 35), .ia 1, [.l 32, .l 34], none⟩, ⟨(some 36), .ld 1 false, [.l 35], none⟩, ⟨(some 37), .bd [.int .i64 0, .int .i64 0, .int .i64 0] [(0, 1), (2, 1)], [.c (.int .i64 4), .l 36], none⟩, ⟨none, .st 3, [.b 1 4, .l 37], none⟩] [] none
def c31_8 : IC := .seq c31_7 .ret
def c31_9 : IC := .regc [⟨(some 30), .bin .eql .int, [.v 2 12, .c (.int .i64 8)], none⟩, ⟨(some 29), .mv, [.l 30], none⟩] [] none (.l 29) c31_8 .skip
def c31_10 : IC := .regc [⟨(some 25), .bin .eql .int, [.v 2 12, .c (.int .i64 7)], none⟩, ⟨(some 24), .mv, [.l 25], none⟩] [] none (.l 24) c31_6 c31_9
def c31_11 : IC := .regc [⟨(some 14), .bin .eql .int, [.v 2 12, .c (.int .i64 6)], none⟩, ⟨(some 13), .mv, [.l 14], none⟩] [] none (.l 13) c31_4 c31_10
def c31_12 : IC := .block 0 c31_11
def c31_13 : IC := .seq c31_2 c31_12
def c31_14 : IC := .reg [⟨(some 38), .bd [.int .i64 0, .int .i64 0, .int .i64 0] [(0, 1)], [.c (.int .i64 1)], none⟩, ⟨none, .st 3, [.b 1 4, .l 38], none⟩] [] none
def c31_15 : IC := .seq c31_14 .ret
def c31_16 : IC := .seq c31_13 c31_15
def c31_17 : IC := .seq c31_1 c31_16
def c31_18 : IC := .seq c31_0 c31_17
def c31 : IFun := ⟨2, [.b 1 4 3 true], c31_18⟩
theorem comp31 : compile Try.prog Try.f31 [12] [3, 4, 5] = some c31 := by kernel_rfl
theorem go31 {args : List Value} (hl : args.length = 2) {H : Heap} {Q : List Value → Heap → Prop} (h : ∀ C, Ok pg C → W pg C c31_18 ⟨args.map some ++ List.replicate 1 none, List.replicate 3 [], H⟩ (Fin [.b 1 4 3 true] Q)) : ICall pg 31 args H Q :=
  call_go Try.func31 (by kernel_rfl) mixed comp31 hl h
/-- impl.did -/
def c32_0 : IC := .reg [⟨(some 4), .bbx 0 4, [.v 1 1], none⟩, ⟨(some 5), .bbx 1 3, [.v 2 2], none⟩, ⟨(some 6), .abx 2 [.int .i64 0, .slice none 0 0, .slice none 0 0, .int .i64 0], [], none⟩] [] none
def c32_1 : IC := .reg [⟨(some 11), .ld 4 true, [.b 0 4], none⟩, ⟨(some 12), .call 16, [.l 11], none⟩, ⟨(some 7), .abx 3 [.int .i64 0, .slice none 0 0, .slice none 0 0, .int .i64 0], [], none⟩, ⟨none, .st 4, [.b 3 7, .l 12], none⟩] [] none
def c32_2 : IC := .reg [⟨(some 13), .mv, [.v 0 0], none⟩, ⟨(some 14), .fa 0, [.b 0 4], none⟩, ⟨(some 15), .ld 1 false, [.l 14], none⟩, ⟨(some 16), .ia 5, [.l 13, .l 15], none⟩, ⟨(some 17), .ld 5 true, [.l 16], none⟩, ⟨(some 8), .abx 4 [.int .i64 0, .int .i64 0, .int .i64 0, .int .i64 0, .int .i64 0], [], none⟩, ⟨none, .st 5, [.b 4 8, .l 17], none⟩] [] none
def c32_3 : IC := .reg [⟨(some 18), .fa 0, [.b 0 4], none⟩, ⟨(some 19), .ld 1 false, [.l 18], none⟩, ⟨(some 20), .bin .add .int, [.l 19, .c (.int .i64 1)], none⟩, ⟨(some 9), .mv, [.l 20], none⟩] [(9, 3)] none
def c32_4 : IC := .reg [⟨(some 21), .fa 0, [.b 4 8], none⟩, ⟨(some 22), .ld 1 false, [.l 21], none⟩] [(22, 5)] none
def c32_5 : IC := .reg [⟨(some 28), .bin .eql .int, [.v 5 22, .c (.int .i64 5)], none⟩, ⟨(some 23), .mv, [.l 28], none⟩] [(23, 6)] none
def c32_6 : IC := .regc [⟨(some 27), .bin .eql .int, [.v 5 22, .c (.int .i64 4)], none⟩, ⟨(some 23), .mv, [.l 27], none⟩] [(23, 6)] none (.v 6 23) .skip c32_5
def c32_7 : IC := .regc [⟨(some 26), .bin .eql .int, [.v 5 22, .c (.int .i64 3)], none⟩, ⟨(some 23), .mv, [.l 26], none⟩] [(23, 6)] none (.v 6 23) .skip c32_6
def c32_8 : IC := .regc [⟨(some 25), .bin .eql .int, [.v 5 22, .c (.int .i64 2)], none⟩, ⟨(some 23), .mv, [.l 25], none⟩] [(23, 6)] none (.v 6 23) .skip c32_7
def c32_9 : IC := .regc [⟨(some 24), .bin .eql .int, [.v 5 22, .c (.int .i64 1)], none⟩, ⟨(some 23), .mv, [.l 24], none⟩] [(23, 6)] none (.v 6 23) .skip c32_8
def c32_10 : IC := .reg [⟨(some 29), .ld 5 true, [.b 4 8], none⟩, ⟨(some 30), .fa 1, [.b 0 4], none⟩, ⟨(some 31), .ld 1 false, [.l 30], none⟩, ⟨(some 32), .call 49, [.l 29, .l 31], none⟩, ⟨(some 10), .mv, [.l 32], none⟩] [(10, 4)] none
def c32_11 : IC := .reg [⟨(some 36), .ld 4 true, [.b 0 4], none⟩, ⟨(some 37), .call 50, [.l 36], none⟩, ⟨none, .st 4, [.b 2 6, .l 37], none⟩] [] none
def c32_12 : IC := .seq c32_11 .ret
def c32_13 : IC := .regc [⟨(some 33), .mv, [.v 4 10], none⟩, ⟨(some 34), .call 48, [.l 33], none⟩, ⟨(some 35), .not, [.l 34], none⟩] [] none (.l 35) c32_12 .skip
def c32_14 : IC := .reg [⟨(some 38), .fa 1, [.b 3 7], none⟩, ⟨(some 39), .ld 1 false, [.l 38], none⟩, ⟨(some 40), .fa 1, [.b 4 8], none⟩, ⟨(some 41), .ld 1 false, [.l 40], none⟩, ⟨(some 42), .mv, [.v 4 10], none⟩, ⟨(some 43), .ia 1, [.l 39, .l 41], none⟩, ⟨none, .st 1, [.l 43, .l 42], none⟩] [] none
def c32_15 : IC := .seq c32_13 c32_14
def c32_16 : IC := .seq c32_10 c32_15
def c32_17 : IC := .reg [⟨(some 46), .fa 1, [.b 3 7], none⟩, ⟨(some 47), .ld 1 false, [.l 46], none⟩, ⟨(some 48), .fa 1, [.b 4 8], none⟩, ⟨(some 49), .ld 1 false, [.l 48], none⟩, ⟨(some 50), .fa 2, [.b 1 5], none⟩, ⟨(some 51), .ld 1 false, [.l 50], none⟩, ⟨(some 52), .ia 1, [.l 47, .l 49], none⟩, ⟨none, .st 1, [.l 52, .l 51], none⟩] [] none
def c32_18 : IC := .reg [⟨(some 59), .ld 4 true, [.b 0 4], none⟩, ⟨(some 60), .call 50, [.l 59], none⟩, ⟨none, .st 4, [.b 2 6, .l 60], none⟩] [] none
def c32_19 : IC := .seq c32_18 .ret
def c32_20 : IC := .regc [⟨(some 55), .fa 2, [.b 0 4], none⟩, ⟨(some 56), .ld 1 false, [.l 55], none⟩, ⟨(some 57), .len, [.l 56], none⟩, ⟨(some 58), .bin .geq .int, [.l 57, .c (.int .i64 60)], none⟩] [] none (.l 58) c32_19 .skip
def c32_21 : IC := .reg [⟨(some 61), .fa 2, [.b 3 7], none⟩, ⟨(some 62), .ld 1 false, [.l 61], none⟩, ⟨(some 63), .fa 2, [.b 1 5], none⟩, ⟨(some 64), .ld 1 false, [.l 63], none⟩, ⟨(some 65), .bs 1 1 [.int .i64 0] [(0, 1)], [.l 64], none⟩, ⟨(some 66), .app 1 8, [.l 62, .l 65], none⟩, ⟨(some 67), .fa 2, [.b 3 7], none⟩, ⟨none, .st 1, [.l 67, .l 66], none⟩] [] none
def c32_22 : IC := .seq c32_20 c32_21
def c32_23 : IC := .reg [⟨(some 70), .fa 4, [.b 4 8], none⟩, ⟨(some 71), .ld 1 false, [.l 70], none⟩, ⟨(some 9), .mv, [.l 71], none⟩] [(9, 3)] none
def c32_24 : IC := .reg [⟨(some 81), .fa 4, [.b 4 8], none⟩, ⟨(some 82), .ld 1 false, [.l 81], none⟩, ⟨(some 9), .mv, [.l 82], none⟩] [(9, 3)] none
def c32_25 : IC := .regc [⟨(some 74), .fa 1, [.b 0 4], none⟩, ⟨(some 75), .ld 1 false, [.l 74], none⟩, ⟨(some 76), .fa 2, [.b 4 8], none⟩, ⟨(some 77), .ld 1 false, [.l 76], none⟩, ⟨(some 78), .ia 1, [.l 75, .l 77], none⟩, ⟨(some 79), .ld 1 false, [.l 78], none⟩, ⟨(some 80), .bin .eql .int, [.l 79, .c (.int .i64 0)], none⟩] [] none (.l 80) c32_24 .skip
def c32_26 : IC := .reg [⟨(some 85), .fa 3, [.b 3 7], none⟩, ⟨none, .st 1, [.l 85, .c (.int .i64 1)], none⟩] [] none
def c32_27 : IC := .reg [⟨(some 86), .ld 4 true, [.b 3 7], none⟩, ⟨none, .st 4, [.b 2 6, .l 86], none⟩] [] none
def c32_28 : IC := .seq c32_27 .ret
def c32_29 : IC := .seq c32_26 c32_28
def c32_30 : IC := .regc [⟨(some 84), .bin .eql .int, [.v 5 22, .c (.int .i64 11)], none⟩, ⟨(some 83), .mv, [.l 84], none⟩] [] none (.l 83) c32_29 .skip
def c32_31 : IC := .regc [⟨(some 73), .bin .eql .int, [.v 5 22, .c (.int .i64 10)], none⟩, ⟨(some 72), .mv, [.l 73], none⟩] [] none (.l 72) c32_25 c32_30
def c32_32 : IC := .regc [⟨(some 69), .bin .eql .int, [.v 5 22, .c (.int .i64 9)], none⟩, ⟨(some 68), .mv, [.l 69], none⟩] [] none (.l 68) c32_23 c32_31
def c32_33 : IC := .regc [⟨(some 54), .bin .eql .int, [.v 5 22, .c (.int .i64 8)], none⟩, ⟨(some 53), .mv, [.l 54], none⟩] [] none (.l 53) c32_22 c32_32
def c32_34 : IC := .regc [⟨(some 45), .bin .eql .int, [.v 5 22, .c (.int .i64 7)], none⟩, ⟨(some 44), .mv, [.l 45], none⟩] [] none (.l 44) c32_17 c32_33
def c32_35 : IC := .cond (.v 6 23) c32_16 c32_34
def c32_36 : IC := .seq c32_9 c32_35
def c32_37 : IC := .block 0 c32_36
def c32_38 : IC := .seq c32_4 c32_37
def c32_39 : IC := .reg [⟨(some 87), .mv, [.v 0 0], none⟩, ⟨(some 88), .ld 4 true, [.b 3 7], none⟩, ⟨(some 89), .mv, [.v 3 9], none⟩, ⟨(some 90), .call 51, [.l 87, .l 88, .l 89], none⟩, ⟨none, .st 4, [.b 2 6, .l 90], none⟩] [] none
def c32_40 : IC := .seq c32_39 .ret
def c32_41 : IC := .seq c32_38 c32_40
def c32_42 : IC := .seq c32_3 c32_41
def c32_43 : IC := .seq c32_2 c32_42
def c32_44 : IC := .seq c32_1 c32_43
def c32_45 : IC := .seq c32_0 c32_44
def c32 : IFun := ⟨3, [.b 2 6 4 true], c32_45⟩
theorem comp32 : compile Try.prog Try.f32 [9, 10, 22, 23] [4, 5, 6, 7, 8] = some c32 := by kernel_rfl
theorem go32 {args : List Value} (hl : args.length = 3) {H : Heap} {Q : List Value → Heap → Prop} (h : ∀ C, Ok pg C → W pg C c32_45 ⟨args.map some ++ List.replicate 4 none, List.replicate 5 [], H⟩ (Fin [.b 2 6 4 true] Q)) : ICall pg 32 args H Q :=
  call_go Try.func32 (by kernel_rfl) mixed comp32 hl h
/-- slices.Clone[[]int,int] -/
def c33_0 : IC := .reg [⟨(some 2), .mv, [.c (.slice none 0 0)], none⟩] [(2, 1)] none
def c33_1 : IC := .reg [⟨(some 2), .mv, [.c (.slice none 0 0)], none⟩] [(2, 1)] none
def c33_2 : IC := .seq c33_1 .ret
def c33_3 : IC := .regc [⟨(some 3), .mv, [.v 0 0], none⟩, ⟨(some 4), .bin .eql .sl, [.l 3, .c (.slice none 0 0)], none⟩] [] none (.l 4) c33_2 .skip
def c33_4 : IC := .reg [⟨(some 5), .bs 0 1 [.int .i64 0] [], [], none⟩, ⟨(some 6), .mv, [.v 0 0], none⟩, ⟨(some 7), .app 1 8, [.l 5, .l 6], none⟩, ⟨(some 2), .mv, [.l 7], none⟩] [(2, 1)] none
def c33_5 : IC := .seq c33_4 .ret
def c33_6 : IC := .seq c33_3 c33_5
def c33_7 : IC := .seq c33_0 c33_6
def c33 : IFun := ⟨1, [.v 1 2], c33_7⟩
theorem comp33 : compile Try.prog Try.f33 [2] [] = some c33 := by kernel_rfl
theorem go33 {args : List Value} (hl : args.length = 1) {H : Heap} {Q : List Value → Heap → Prop} (h : ∀ C, Ok pg C → W pg C c33_7 ⟨args.map some ++ List.replicate 1 none, List.replicate 0 [], H⟩ (Fin [.v 1 2] Q)) : ICall pg 33 args H Q :=
  call_go Try.func33 (by kernel_rfl) mixed comp33 hl h
/-- spec.l2Next -/
def c34_0 : IC := .reg [⟨(some 3), .bbx 0 4, [.v 1 1], none⟩, ⟨(some 4), .abx 1 [.int .i64 0, .int .i64 0, .int .i64 0], [], none⟩] [] none
def c34_1 : IC := .reg [⟨(some 6), .mv, [.v 0 0], none⟩, ⟨(some 7), .fa 0, [.b 0 3], none⟩, ⟨(some 8), .ld 1 false, [.l 7], none⟩, ⟨(some 9), .ia 5, [.l 6, .l 8], none⟩, ⟨(some 10), .ld 5 true, [.l 9], none⟩, ⟨(some 5), .abx 2 [.int .i64 0, .int .i64 0, .int .i64 0, .int .i64 0, .int .i64 0], [], none⟩, ⟨none, .st 5, [.b 2 5, .l 10], none⟩] [] none
def c34_2 : IC := .reg [⟨(some 11), .fa 0, [.b 2 5], none⟩, ⟨(some 12), .ld 1 false, [.l 11], none⟩] [(12, 2)] none
def c34_3 : IC := .reg [⟨(some 15), .fa 4, [.b 2 5], none⟩, ⟨(some 16), .ld 1 false, [.l 15], none⟩, ⟨(some 17), .fa 1, [.b 0 3], none⟩, ⟨(some 18), .ld 1 false, [.l 17], none⟩, ⟨(some 19), .fa 2, [.b 2 5], none⟩, ⟨(some 20), .ld 1 false, [.l 19], none⟩, ⟨(some 21), .ia 1, [.l 18, .l 20], none⟩, ⟨(some 22), .ld 1 false, [.l 21], none⟩, ⟨(some 23), .bd [.int .i64 0, .int .i64 0, .int .i64 0] [(0, 1), (1, 1), (2, 1)], [.c (.int .i64 2), .l 16, .l 22], none⟩, ⟨none, .st 3, [.b 1 4, .l 23], none⟩] [] (some 0)
def c34_4 : IC := .seq c34_3 .ret
def c34_5 : IC := .reg [⟨(some 26), .fa 4, [.b 2 5], none⟩, ⟨(some 27), .ld 1 false, [.l 26], none⟩, ⟨(some 28), .bd [.int .i64 0, .int .i64 0, .int .i64 0] [(0, 1), (1, 1)], [.c (.int .i64 3), .l 27], none⟩, ⟨none, .st 3, [.b 1 4, .l 28], none⟩] [] none
def c34_6 : IC := .seq c34_5 .ret
def c34_7 : IC := .reg [⟨(some 31), .fa 1, [.b 0 3], none⟩, ⟨(some 32), .ld 1 false, [.l 31], none⟩, ⟨(some 33), .fa 2, [.b 2 5], none⟩, ⟨(some 34), .ld 1 false, [.l 33], none⟩, ⟨(some 35), .ia 1, [.l 32, .l 34], none⟩, ⟨(some 36), .ld 1 false, [.l 35], none⟩, ⟨(some 37), .bd [.int .i64 0, .int .i64 0, .int .i64 0] [(0, 1), (2, 1)], [.c (.int .i64 4), .l 36], none⟩, ⟨none, .st 3, [.b 1 4, .l 37], none⟩] [] none
def c34_8 : IC := .seq c34_7 .ret
def c34_9 : IC := .regc [⟨(some 30), .bin .eql .int, [.v 2 12, .c (.int .i64 8)], none⟩, ⟨(some 29), .mv, [.l 30], none⟩] [] none (.l 29) c34_8 .skip
def c34_10 : IC := .regc [⟨(some 25), .bin .eql .int, [.v 2 12, .c (.int .i64 7)], none⟩, ⟨(some 24), .mv, [.l 25], none⟩] [] none (.l 24) c34_6 c34_9
def c34_11 : IC := .regc [⟨(some 14), .bin .eql .int, [.v 2 12, .c (.int .i64 6)], none⟩, ⟨(some 13), .mv, [.l 14], none⟩] [] none (.l 13) c34_4 c34_10
def c34_12 : IC := .block 0 c34_11
def c34_13 : IC := .seq c34_2 c34_12
def c34_14 : IC := .reg [⟨(some 38), .bd [.int .i64 0, .int .i64 0, .int .i64 0] [(0, 1)], [.c (.int .i64 1)], none⟩, ⟨none, .st 3, [.b 1 4, .l 38], none⟩] [] none
def c34_15 : IC := .seq c34_14 .ret
def c34_16 : IC := .seq c34_13 c34_15
def c34_17 : IC := .seq c34_1 c34_16
def c34_18 : IC := .seq c34_0 c34_17
def c34 : IFun := ⟨2, [.b 1 4 3 true], c34_18⟩
theorem comp34 : compile Try.prog Try.f34 [12] [3, 4, 5] = some c34 := by kernel_rfl
theorem go34 {args : List Value} (hl : args.length = 2) {H : Heap} {Q : List Value → Heap → Prop} (h : ∀ C, Ok pg C → W pg C c34_18 ⟨args.map some ++ List.replicate 1 none, List.replicate 3 [], H⟩ (Fin [.b 1 4 3 true] Q)) : ICall pg 34 args H Q :=
  call_go Try.func34 (by kernel_rfl) mixed comp34 hl h
/-- spec.l1Num -/
def c35_0 : IC := .reg [⟨(some 2), .mv, [.c (.bool false)], none⟩] [(2, 1)] none
def c35_1 : IC := .reg [⟨(some 3), .mv, [.v 0 0], none⟩, ⟨(some 4), .call 17, [.l 3, .c (.int .i64 (-1000000000)), .c (.int .i64 1000000000)], none⟩, ⟨(some 2), .mv, [.l 4], none⟩] [(2, 1)] none
def c35_2 : IC := .seq c35_1 .ret
def c35_3 : IC := .seq c35_0 c35_2
def c35 : IFun := ⟨1, [.v 1 2], c35_3⟩
theorem comp35 : compile Try.prog Try.f35 [2] [] = some c35 := by kernel_rfl
theorem go35 {args : List Value} (hl : args.length = 1) {H : Heap} {Q : List Value → Heap → Prop} (h : ∀ C, Ok pg C → W pg C c35_3 ⟨args.map some ++ List.replicate 1 none, List.replicate 0 [], H⟩ (Fin [.v 1 2] Q)) : ICall pg 35 args H Q :=
  call_go Try.func35 (by kernel_rfl) mixed comp35 hl h
/-- spec.l2Go -/
def c36_0 : IC := .reg [⟨(some 3), .bbx 0 4, [.v 1 1], none⟩, ⟨(some 4), .abx 1 [.int .i64 0, .slice none 0 0, .slice none 0 0, .int .i64 0], [], none⟩] [] none
def c36_1 : IC := .reg [⟨(some 11), .ld 4 true, [.b 0 3], none⟩, ⟨(some 12), .call 37, [.l 11], none⟩, ⟨none, .st 4, [.b 1 4, .l 12], none⟩] [] none
def c36_2 : IC := .seq c36_1 .ret
def c36_3 : IC := .regc [⟨(some 5), .fa 0, [.b 0 3], none⟩, ⟨(some 6), .ld 1 false, [.l 5], none⟩, ⟨(some 7), .bin .add .int, [.l 6, .c (.int .i64 1)], none⟩, ⟨(some 8), .mv, [.v 0 0], none⟩, ⟨(some 9), .len, [.l 8], none⟩, ⟨(some 10), .bin .geq .int, [.l 7, .l 9], none⟩] [] none (.l 10) c36_2 .skip
def c36_4 : IC := .reg [⟨(some 13), .fa 0, [.b 0 3], none⟩, ⟨(some 14), .ld 1 false, [.l 13], none⟩, ⟨(some 15), .bin .add .int, [.l 14, .c (.int .i64 1)], none⟩, ⟨(some 16), .fa 0, [.b 0 3], none⟩, ⟨none, .st 1, [.l 16, .l 15], none⟩] [] none
def c36_5 : IC := .reg [⟨(some 17), .ld 4 true, [.b 0 3], none⟩, ⟨none, .st 4, [.b 1 4, .l 17], none⟩] [] none
def c36_6 : IC := .seq c36_5 .ret
def c36_7 : IC := .seq c36_4 c36_6
def c36_8 : IC := .seq c36_3 c36_7
def c36_9 : IC := .seq c36_0 c36_8
def c36 : IFun := ⟨2, [.b 1 4 4 true], c36_9⟩
theorem comp36 : compile Try.prog Try.f36 [] [3, 4] = some c36 := by kernel_rfl
theorem go36 {args : List Value} (hl : args.length = 2) {H : Heap} {Q : List Value → Heap → Prop} (h : ∀ C, Ok pg C → W pg C c36_9 ⟨args.map some ++ List.replicate 0 none, List.replicate 2 [], H⟩ (Fin [.b 1 4 4 true] Q)) : ICall pg 36 args H Q :=
  call_go Try.func36 (by kernel_rfl) mixed comp36 hl h
/-- spec.l2Fault -/
def c37_0 : IC := .reg [⟨(some 1), .bbx 0 4, [.v 0 0], none⟩, ⟨(some 2), .abx 1 [.int .i64 0, .slice none 0 0, .slice none 0 0, .int .i64 0], [], none⟩] [] none
def c37_1 : IC := .reg [⟨(some 3), .fa 3, [.b 0 1], none⟩, ⟨none, .st 1, [.l 3, .c (.int .i64 2)], none⟩] [] none
def c37_2 : IC := .reg [⟨(some 4), .ld 4 true, [.b 0 1], none⟩, ⟨none, .st 4, [.b 1 2, .l 4], none⟩] [] none
def c37_3 : IC := .seq c37_2 .ret
def c37_4 : IC := .seq c37_1 c37_3
def c37_5 : IC := .seq c37_0 c37_4
def c37 : IFun := ⟨1, [.b 1 2 4 true], c37_5⟩
theorem comp37 : compile Try.prog Try.f37 [] [1, 2] = some c37 := by kernel_rfl
theorem go37 {args : List Value} (hl : args.length = 1) {H : Heap} {Q : List Value → Heap → Prop} (h : ∀ C, Ok pg C → W pg C c37_5 ⟨args.map some ++ List.replicate 0 none, List.replicate 2 [], H⟩ (Fin [.b 1 2 4 true] Q)) : ICall pg 37 args H Q :=
  call_go Try.func37 (by kernel_rfl) mixed comp37 hl h
/-- spec.l2Local -/
def c38_0 : IC := .reg [⟨(some 3), .bbx 0 4, [.v 1 1], none⟩, ⟨(some 4), .abx 1 [.int .i64 0, .slice none 0 0, .slice none 0 0, .int .i64 0], [], none⟩] [] none
def c38_1 : IC := .reg [⟨(some 9), .mv, [.v 0 0], none⟩, ⟨(some 10), .fa 0, [.b 0 3], none⟩, ⟨(some 11), .ld 1 false, [.l 10], none⟩, ⟨(some 12), .ia 5, [.l 9, .l 11], none⟩, ⟨(some 13), .ld 5 true, [.l 12], none⟩, ⟨(some 5), .abx 2 [.int .i64 0, .int .i64 0, .int .i64 0, .int .i64 0, .int .i64 0], [], none⟩, ⟨none, .st 5, [.b 2 5, .l 13], none⟩] [] none
def c38_2 : IC := .reg [⟨(some 14), .fa 1, [.b 0 3], none⟩, ⟨(some 15), .ld 1 false, [.l 14], none⟩, ⟨(some 16), .fa 2, [.b 2 5], none⟩, ⟨(some 17), .ld 1 false, [.l 16], none⟩, ⟨(some 18), .ia 1, [.l 15, .l 17], none⟩, ⟨(some 19), .ld 1 false, [.l 18], none⟩, ⟨(some 20), .fa 1, [.b 0 3], none⟩, ⟨(some 21), .ld 1 false, [.l 20], none⟩, ⟨(some 22), .fa 3, [.b 2 5], none⟩, ⟨(some 23), .ld 1 false, [.l 22], none⟩, ⟨(some 24), .ia 1, [.l 21, .l 23], none⟩, ⟨(some 25), .ld 1 false, [.l 24], none⟩, ⟨(some 6), .mv, [.l 19], none⟩, ⟨(some 7), .mv, [.l 25], none⟩] [(6, 2), (7, 3)] (some 12)
def c38_3 : IC := .reg [⟨(some 8), .mv, [.c (.int .i64 0)], none⟩] [(8, 4)] none
def c38_4 : IC := .reg [⟨(some 26), .fa 0, [.b 2 5], none⟩, ⟨(some 27), .ld 1 false, [.l 26], none⟩] [(27, 5)] none
def c38_5 : IC := .reg [⟨(some 30), .fa 3, [.b 0 3], none⟩, ⟨none, .st 1, [.l 30, .c (.int .i64 1)], none⟩] [] none
def c38_6 : IC := .reg [⟨(some 31), .ld 4 true, [.b 0 3], none⟩, ⟨none, .st 4, [.b 1 4, .l 31], none⟩] [] none
def c38_7 : IC := .seq c38_6 .ret
def c38_8 : IC := .seq c38_5 c38_7
def c38_9 : IC := .reg [⟨(some 34), .fa 4, [.b 2 5], none⟩, ⟨(some 35), .ld 1 false, [.l 34], none⟩, ⟨(some 36), .fa 0, [.b 0 3], none⟩, ⟨none, .st 1, [.l 36, .l 35], none⟩] [] none
def c38_10 : IC := .reg [⟨(some 37), .ld 4 true, [.b 0 3], none⟩, ⟨none, .st 4, [.b 1 4, .l 37], none⟩] [] none
def c38_11 : IC := .seq c38_10 .ret
def c38_12 : IC := .seq c38_9 c38_11
def c38_13 : IC := .reg [⟨(some 42), .fa 4, [.b 2 5], none⟩, ⟨(some 43), .ld 1 false, [.l 42], none⟩, ⟨(some 44), .fa 0, [.b 0 3], none⟩, ⟨none, .st 1, [.l 44, .l 43], none⟩] [] none
def c38_14 : IC := .reg [⟨(some 45), .ld 4 true, [.b 0 3], none⟩, ⟨none, .st 4, [.b 1 4, .l 45], none⟩] [] none
def c38_15 : IC := .seq c38_14 .ret
def c38_16 : IC := .seq c38_13 c38_15
def c38_17 : IC := .regc [⟨(some 40), .mv, [.v 2 6], none⟩, ⟨(some 41), .bin .eql .int, [.l 40, .c (.int .i64 0)], none⟩] [] none (.l 41) c38_16 .skip
def c38_18 : IC := .reg [⟨(some 46), .mv, [.v 0 0], none⟩, ⟨(some 47), .ld 4 true, [.b 0 3], none⟩, ⟨(some 48), .call 36, [.l 46, .l 47], none⟩, ⟨none, .st 4, [.b 1 4, .l 48], none⟩] [] none
def c38_19 : IC := .seq c38_18 .ret
def c38_20 : IC := .seq c38_17 c38_19
def c38_21 : IC := .reg [⟨(some 51), .fa 4, [.b 2 5], none⟩, ⟨(some 52), .ld 1 false, [.l 51], none⟩, ⟨(some 8), .mv, [.l 52], none⟩] [(8, 4)] none
def c38_22 : IC := .reg [⟨(some 55), .mv, [.v 2 6], none⟩, ⟨(some 56), .mv, [.v 3 7], none⟩, ⟨(some 57), .bin .add .int, [.l 55, .l 56], none⟩, ⟨(some 8), .mv, [.l 57], none⟩] [(8, 4)] none
def c38_23 : IC := .reg [⟨(some 60), .mv, [.v 2 6], none⟩, ⟨(some 61), .mv, [.v 3 7], none⟩, ⟨(some 62), .bin .sub .int, [.l 60, .l 61], none⟩, ⟨(some 8), .mv, [.l 62], none⟩] [(8, 4)] none
def c38_24 : IC := .reg [⟨(some 65), .mv, [.v 2 6], none⟩, ⟨(some 66), .mv, [.v 3 7], none⟩, ⟨(some 67), .bin .mul .int, [.l 65, .l 66], none⟩, ⟨(some 8), .mv, [.l 67], none⟩] [(8, 4)] none
def c38_25 : IC := .reg [⟨(some 8), .mv, [.c (.int .i64 1)], none⟩] [(8, 4)] none
def c38_26 : IC := .regc [⟨(some 70), .mv, [.v 2 6], none⟩, ⟨(some 71), .mv, [.v 3 7], none⟩, ⟨(some 72), .bin .lss .int, [.l 70, .l 71], none⟩] [] none (.l 72) c38_25 .skip
def c38_27 : IC := .regc [⟨(some 69), .bin .eql .int, [.v 5 27, .c (.int .i64 5)], none⟩, ⟨(some 68), .mv, [.l 69], none⟩] [] none (.l 68) c38_26 .skip
def c38_28 : IC := .regc [⟨(some 64), .bin .eql .int, [.v 5 27, .c (.int .i64 4)], none⟩, ⟨(some 63), .mv, [.l 64], none⟩] [] none (.l 63) c38_24 c38_27
def c38_29 : IC := .regc [⟨(some 59), .bin .eql .int, [.v 5 27, .c (.int .i64 3)], none⟩, ⟨(some 58), .mv, [.l 59], none⟩] [] none (.l 58) c38_23 c38_28
def c38_30 : IC := .regc [⟨(some 54), .bin .eql .int, [.v 5 27, .c (.int .i64 2)], none⟩, ⟨(some 53), .mv, [.l 54], none⟩] [] none (.l 53) c38_22 c38_29
def c38_31 : IC := .regc [⟨(some 50), .bin .eql .int, [.v 5 27, .c (.int .i64 1)], none⟩, ⟨(some 49), .mv, [.l 50], none⟩] [] none (.l 49) c38_21 c38_30
def c38_32 : IC := .regc [⟨(some 39), .bin .eql .int, [.v 5 27, .c (.int .i64 10)], none⟩, ⟨(some 38), .mv, [.l 39], none⟩] [] none (.l 38) c38_20 c38_31
def c38_33 : IC := .regc [⟨(some 33), .bin .eql .int, [.v 5 27, .c (.int .i64 9)], none⟩, ⟨(some 32), .mv, [.l 33], none⟩] [] none (.l 32) c38_12 c38_32
def c38_34 : IC := .regc [⟨(some 29), .bin .eql .int, [.v 5 27, .c (.int .i64 11)], none⟩, ⟨(some 28), .mv, [.l 29], none⟩] [] none (.l 28) c38_8 c38_33
def c38_35 : IC := .block 0 c38_34
def c38_36 : IC := .seq c38_4 c38_35
def c38_37 : IC := .reg [⟨(some 76), .ld 4 true, [.b 0 3], none⟩, ⟨(some 77), .call 37, [.l 76], none⟩, ⟨none, .st 4, [.b 1 4, .l 77], none⟩] [] none
def c38_38 : IC := .seq c38_37 .ret
def c38_39 : IC := .regc [⟨(some 73), .mv, [.v 4 8], none⟩, ⟨(some 74), .call 35, [.l 73], none⟩, ⟨(some 75), .not, [.l 74], none⟩] [] none (.l 75) c38_38 .skip
def c38_40 : IC := .reg [⟨(some 78), .fa 1, [.b 0 3], none⟩, ⟨(some 79), .ld 1 false, [.l 78], none⟩, ⟨(some 80), .fa 1, [.b 2 5], none⟩, ⟨(some 81), .ld 1 false, [.l 80], none⟩, ⟨(some 82), .mv, [.v 4 8], none⟩, ⟨(some 83), .ia 1, [.l 79, .l 81], none⟩, ⟨none, .st 1, [.l 83, .l 82], none⟩] [] none
def c38_41 : IC := .reg [⟨(some 84), .mv, [.v 0 0], none⟩, ⟨(some 85), .ld 4 true, [.b 0 3], none⟩, ⟨(some 86), .call 36, [.l 84, .l 85], none⟩, ⟨none, .st 4, [.b 1 4, .l 86], none⟩] [] none
def c38_42 : IC := .seq c38_41 .ret
def c38_43 : IC := .seq c38_40 c38_42
def c38_44 : IC := .seq c38_39 c38_43
def c38_45 : IC := .seq c38_36 c38_44
def c38_46 : IC := .seq c38_3 c38_45
def c38_47 : IC := .seq c38_2 c38_46
def c38_48 : IC := .seq c38_1 c38_47
def c38_49 : IC := .seq c38_0 c38_48
def c38 : IFun := ⟨2, [.b 1 4 4 true], c38_49⟩
theorem comp38 : compile Try.prog Try.f38 [6, 7, 8, 27] [3, 4, 5] = some c38 := by kernel_rfl
theorem go38 {args : List Value} (hl : args.length = 2) {H : Heap} {Q : List Value → Heap → Prop} (h : ∀ C, Ok pg C → W pg C c38_49 ⟨args.map some ++ List.replicate 4 none, List.replicate 3 [], H⟩ (Fin [.b 1 4 4 true] Q)) : ICall pg 38 args H Q :=
  call_go Try.func38 (by kernel_rfl) mixed comp38 hl h
/-- slices.Equal[[]int,int] -/
def c39_0 : IC := .reg [⟨(some 4), .mv, [.c (.bool false)], none⟩] [(4, 2)] none
def c39_1 : IC := .reg [⟨(some 4), .mv, [.c (.bool false)], none⟩] [(4, 2)] none
def c39_2 : IC := .seq c39_1 .ret
def c39_3 : IC := .regc [⟨(some 6), .mv, [.v 0 0], none⟩, ⟨(some 7), .len, [.l 6], none⟩, ⟨(some 8), .mv, [.v 1 1], none⟩, ⟨(some 9), .len, [.l 8], none⟩, ⟨(some 10), .bin .neq .int, [.l 7, .l 9], none⟩] [] none (.l 10) c39_2 .skip
def c39_4 : IC := .reg [⟨(some 11), .mv, [.v 0 0], none⟩, ⟨(some 12), .len, [.l 11], none⟩, ⟨(some 13), .mv, [.c (.int .i64 0)], none⟩] [(12, 4), (13, 5)] none
def c39_5 : IC := .reg [⟨(some 14), .bin .lss .int, [.v 5 13, .v 4 12], none⟩] [(14, 6)] none
def c39_6 : IC := .exit 0
def c39_7 : IC := .cond (.v 6 14) .skip c39_6
def c39_8 : IC := .reg [⟨(some 15), .mv, [.v 5 13], none⟩, ⟨(some 5), .mv, [.l 15], none⟩] [(5, 3)] none
def c39_9 : IC := .reg [⟨(some 4), .mv, [.c (.bool false)], none⟩] [(4, 2)] none
def c39_10 : IC := .seq c39_9 .ret
def c39_11 : IC := .regc [⟨(some 16), .mv, [.v 0 0], none⟩, ⟨(some 17), .mv, [.v 3 5], none⟩, ⟨(some 18), .ia 1, [.l 16, .l 17], none⟩, ⟨(some 19), .ld 1 false, [.l 18], none⟩, ⟨(some 20), .mv, [.v 1 1], none⟩, ⟨(some 21), .mv, [.v 3 5], none⟩, ⟨(some 22), .ia 1, [.l 20, .l 21], none⟩, ⟨(some 23), .ld 1 false, [.l 22], none⟩, ⟨(some 24), .bin .neq .int, [.l 19, .l 23], none⟩] [] (some 8) (.l 24) c39_10 .skip
def c39_12 : IC := .seq c39_8 c39_11
def c39_13 : IC := .block 1 c39_12
def c39_14 : IC := .reg [⟨(some 25), .bin .add .int, [.v 5 13, .c (.int .i64 1)], none⟩, ⟨(some 13), .mv, [.l 25], none⟩] [(13, 5)] none
def c39_15 : IC := .seq c39_13 c39_14
def c39_16 : IC := .seq c39_7 c39_15
def c39_17 : IC := .seq c39_5 c39_16
def c39_18 : IC := .loop c39_17
def c39_19 : IC := .block 0 c39_18
def c39_20 : IC := .seq c39_4 c39_19
def c39_21 : IC := .reg [⟨(some 4), .mv, [.c (.bool true)], none⟩] [(4, 2)] none
def c39_22 : IC := .seq c39_21 .ret
def c39_23 : IC := .seq c39_20 c39_22
def c39_24 : IC := .seq c39_3 c39_23
def c39_25 : IC := .seq c39_0 c39_24
def c39 : IFun := ⟨2, [.v 2 4], c39_25⟩
theorem comp39 : compile Try.prog Try.f39 [4, 5, 12, 13, 14] [] = some c39 := by kernel_rfl
theorem go39 {args : List Value} (hl : args.length = 2) {H : Heap} {Q : List Value → Heap → Prop} (h : ∀ C, Ok pg C → W pg C c39_25 ⟨args.map some ++ List.replicate 5 none, List.replicate 0 [], H⟩ (Fin [.v 2 4] Q)) : ICall pg 39 args H Q :=
  call_go Try.func39 (by kernel_rfl) mixed comp39 hl h
/-- spec.ProgOk -/
def c40_0 : IC := .reg [⟨(some 4), .mv, [.c (.bool false)], none⟩] [(4, 2)] none
def c40_1 : IC := .reg [⟨(some 5), .mv, [.c (.int .i64 0)], none⟩] [(5, 3)] none
def c40_2 : IC := .exit 0
def c40_3 : IC := .regc [⟨(some 6), .mv, [.v 3 5], none⟩, ⟨(some 7), .mv, [.v 0 0], none⟩, ⟨(some 8), .len, [.l 7], none⟩, ⟨(some 9), .bin .lss .int, [.l 6, .l 8], none⟩] [] none (.l 9) .skip c40_2
def c40_4 : IC := .reg [⟨(some 4), .mv, [.c (.bool false)], none⟩] [(4, 2)] none
def c40_5 : IC := .seq c40_4 .ret
def c40_6 : IC := .regc [⟨(some 12), .mv, [.v 0 0], none⟩, ⟨(some 13), .mv, [.v 3 5], none⟩, ⟨(some 14), .ia 5, [.l 12, .l 13], none⟩, ⟨(some 15), .ld 5 true, [.l 14], none⟩, ⟨(some 16), .mv, [.v 0 0], none⟩, ⟨(some 17), .len, [.l 16], none⟩, ⟨(some 18), .mv, [.v 1 1], none⟩, ⟨(some 19), .call 52, [.l 15, .l 17, .l 18], none⟩, ⟨(some 20), .not, [.l 19], none⟩] [] none (.l 20) c40_5 .skip
def c40_7 : IC := .block 1 c40_6
def c40_8 : IC := .reg [⟨(some 10), .mv, [.v 3 5], none⟩, ⟨(some 11), .bin .add .int, [.l 10, .c (.int .i64 1)], none⟩, ⟨(some 5), .mv, [.l 11], none⟩] [(5, 3)] none
def c40_9 : IC := .seq c40_7 c40_8
def c40_10 : IC := .seq c40_3 c40_9
def c40_11 : IC := .loop c40_10
def c40_12 : IC := .block 0 c40_11
def c40_13 : IC := .seq c40_1 c40_12
def c40_14 : IC := .reg [⟨(some 21), .mv, [.v 0 0], none⟩, ⟨(some 22), .len, [.l 21], none⟩, ⟨(some 23), .call 17, [.l 22, .c (.int .i64 1), .c (.int .i64 30)], none⟩, ⟨(some 24), .mv, [.l 23], none⟩, ⟨(some 25), .mv, [.v 1 1], (some (24, true))⟩, ⟨(some 26), .call 17, [.l 25, .c (.int .i64 1), .c (.int .i64 4)], (some (24, true))⟩, ⟨(some 27), .pick, [.l 24, .l 26, .c (.bool false)], none⟩, ⟨(some 4), .mv, [.l 27], none⟩] [(4, 2)] none
def c40_15 : IC := .seq c40_14 .ret
def c40_16 : IC := .seq c40_13 c40_15
def c40_17 : IC := .seq c40_0 c40_16
def c40 : IFun := ⟨2, [.v 2 4], c40_17⟩
theorem comp40 : compile Try.prog Try.f40 [4, 5] [] = some c40 := by kernel_rfl
theorem go40 {args : List Value} (hl : args.length = 2) {H : Heap} {Q : List Value → Heap → Prop} (h : ∀ C, Ok pg C → W pg C c40_17 ⟨args.map some ++ List.replicate 2 none, List.replicate 0 [], H⟩ (Fin [.v 2 4] Q)) : ICall pg 40 args H Q :=
  call_go Try.func40 (by kernel_rfl) mixed comp40 hl h
/-- spec.l3Replay -/
def c41_0 : IC := .reg [⟨(some 4), .abx 0 [.int .i64 0, .slice none 0 0, .slice none 0 0, .int .i64 0], [], none⟩, ⟨(some 5), .mv, [.c (.bool false)], none⟩] [(5, 2)] none
def c41_1 : IC := .reg [⟨(some 10), .call 53, [], none⟩, ⟨(some 6), .abx 1 [.int .i64 0, .slice none 0 0, .slice none 0 0, .int .i64 0], [], none⟩, ⟨none, .st 4, [.b 1 6, .l 10], none⟩] [] none
def c41_2 : IC := .reg [⟨(some 7), .mv, [.c (.int .i64 0)], none⟩] [(7, 3)] none
def c41_3 : IC := .exit 0
def c41_4 : IC := .regc [⟨(some 11), .mv, [.v 3 7], none⟩, ⟨(some 12), .mv, [.v 1 1], none⟩, ⟨(some 13), .len, [.l 12], none⟩, ⟨(some 14), .bin .lss .int, [.l 11, .l 13], none⟩] [] none (.l 14) .skip c41_3
def c41_5 : IC := .reg [⟨(some 20), .bd [.int .i64 0, .slice none 0 0, .slice none 0 0, .int .i64 0] [], [], none⟩, ⟨none, .st 4, [.b 0 4, .l 20], none⟩, ⟨(some 5), .mv, [.c (.bool false)], none⟩] [(5, 2)] none
def c41_6 : IC := .seq c41_5 .ret
def c41_7 : IC := .regc [⟨(some 17), .fa 3, [.b 1 6], none⟩, ⟨(some 18), .ld 1 false, [.l 17], none⟩, ⟨(some 19), .bin .neq .int, [.l 18, .c (.int .i64 0)], none⟩] [] none (.l 19) c41_6 .skip
def c41_8 : IC := .reg [⟨(some 22), .mv, [.v 0 0], none⟩, ⟨(some 23), .ld 4 true, [.b 1 6], none⟩, ⟨(some 24), .mv, [.v 1 1], none⟩, ⟨(some 25), .mv, [.v 3 7], none⟩, ⟨(some 26), .ia 3, [.l 24, .l 25], none⟩, ⟨(some 27), .ld 3 true, [.l 26], none⟩, ⟨(some 28), .call 19, [.l 22, .l 23, .l 27], none⟩, ⟨(some 21), .mv, [.l 28], none⟩, ⟨(some 29), .ex 0, [.l 21], none⟩, ⟨(some 30), .ex 1, [.l 21], none⟩, ⟨(some 8), .abx 2 [.int .i64 0, .slice none 0 0, .slice none 0 0, .int .i64 0], [], none⟩, ⟨none, .st 4, [.b 2 8, .l 29], none⟩, ⟨(some 9), .mv, [.l 30], none⟩] [(9, 4)] (some 0)
def c41_9 : IC := .reg [⟨(some 33), .bd [.int .i64 0, .slice none 0 0, .slice none 0 0, .int .i64 0] [], [], none⟩, ⟨none, .st 4, [.b 0 4, .l 33], none⟩, ⟨(some 5), .mv, [.c (.bool false)], none⟩] [(5, 2)] none
def c41_10 : IC := .seq c41_9 .ret
def c41_11 : IC := .regc [⟨(some 31), .mv, [.v 4 9], none⟩, ⟨(some 32), .not, [.l 31], none⟩] [] none (.l 32) c41_10 .skip
def c41_12 : IC := .reg [⟨(some 34), .ld 4 true, [.b 2 8], none⟩, ⟨none, .st 4, [.b 1 6, .l 34], none⟩] [] none
def c41_13 : IC := .seq c41_11 c41_12
def c41_14 : IC := .seq c41_8 c41_13
def c41_15 : IC := .seq c41_7 c41_14
def c41_16 : IC := .block 1 c41_15
def c41_17 : IC := .reg [⟨(some 15), .mv, [.v 3 7], none⟩, ⟨(some 16), .bin .add .int, [.l 15, .c (.int .i64 1)], none⟩, ⟨(some 7), .mv, [.l 16], none⟩] [(7, 3)] none
def c41_18 : IC := .seq c41_16 c41_17
def c41_19 : IC := .seq c41_4 c41_18
def c41_20 : IC := .loop c41_19
def c41_21 : IC := .block 0 c41_20
def c41_22 : IC := .seq c41_2 c41_21
def c41_23 : IC := .reg [⟨(some 35), .ld 4 true, [.b 1 6], none⟩, ⟨none, .st 4, [.b 0 4, .l 35], none⟩, ⟨(some 5), .mv, [.c (.bool true)], none⟩] [(5, 2)] none
def c41_24 : IC := .seq c41_23 .ret
def c41_25 : IC := .seq c41_22 c41_24
def c41_26 : IC := .seq c41_1 c41_25
def c41_27 : IC := .seq c41_0 c41_26
def c41 : IFun := ⟨2, [.b 0 4 4 true, .v 2 5], c41_27⟩
theorem comp41 : compile Try.prog Try.f41 [5, 7, 9] [4, 6, 8] = some c41 := by kernel_rfl
theorem go41 {args : List Value} (hl : args.length = 2) {H : Heap} {Q : List Value → Heap → Prop} (h : ∀ C, Ok pg C → W pg C c41_27 ⟨args.map some ++ List.replicate 3 none, List.replicate 3 [], H⟩ (Fin [.b 0 4 4 true, .v 2 5] Q)) : ICall pg 41 args H Q :=
  call_go Try.func41 (by kernel_rfl) mixed comp41 hl h
/-- slices.ContainsFunc[[]impl.Ins,impl.Ins] -/
def c42_0 : IC := .reg [⟨(some 4), .mv, [.c (.bool false)], none⟩] [(4, 2)] none
def c42_1 : IC := .reg [⟨(some 5), .mv, [.v 0 0], none⟩, ⟨(some 6), .mv, [.v 1 1], none⟩, ⟨(some 7), .call 54, [.l 5, .l 6], none⟩, ⟨(some 8), .bin .geq .int, [.l 7, .c (.int .i64 0)], none⟩, ⟨(some 4), .mv, [.l 8], none⟩] [(4, 2)] none
def c42_2 : IC := .seq c42_1 .ret
def c42_3 : IC := .seq c42_0 c42_2
def c42 : IFun := ⟨2, [.v 2 4], c42_3⟩
theorem comp42 : compile Try.prog Try.f42 [4] [] = some c42 := by kernel_rfl
theorem go42 {args : List Value} (hl : args.length = 2) {H : Heap} {Q : List Value → Heap → Prop} (h : ∀ C, Ok pg C → W pg C c42_3 ⟨args.map some ++ List.replicate 1 none, List.replicate 0 [], H⟩ (Fin [.v 2 4] Q)) : ICall pg 42 args H Q :=
  call_go Try.func42 (by kernel_rfl) mixed comp42 hl h
/-- impl.ProgOk$1 -/
def c43_0 : IC := .reg [⟨(some 3), .bbx 0 5, [.v 0 0], none⟩, ⟨(some 4), .mv, [.c (.bool false)], none⟩] [(4, 3)] none
def c43_1 : IC := .reg [⟨(some 5), .ld 5 true, [.b 0 3], none⟩, ⟨(some 6), .ld 1 false, [.v 1 1], none⟩, ⟨(some 7), .len, [.l 6], none⟩, ⟨(some 8), .ld 1 false, [.v 2 2], none⟩, ⟨(some 9), .call 44, [.l 5, .l 7, .l 8], none⟩, ⟨(some 10), .not, [.l 9], none⟩, ⟨(some 4), .mv, [.l 10], none⟩] [(4, 3)] none
def c43_2 : IC := .seq c43_1 .ret
def c43_3 : IC := .seq c43_0 c43_2
def c43 : IFun := ⟨3, [.v 3 4], c43_3⟩
theorem comp43 : compile Try.prog Try.f43 [4] [3] = some c43 := by kernel_rfl
theorem go43 {args : List Value} (hl : args.length = 3) {H : Heap} {Q : List Value → Heap → Prop} (h : ∀ C, Ok pg C → W pg C c43_3 ⟨args.map some ++ List.replicate 1 none, List.replicate 1 [], H⟩ (Fin [.v 3 4] Q)) : ICall pg 43 args H Q :=
  call_go Try.func43 (by kernel_rfl) mixed comp43 hl h
/-- impl.InsOk -/
def c44_0 : IC := .reg [⟨(some 3), .bbx 0 5, [.v 0 0], none⟩, ⟨(some 6), .mv, [.c (.bool false)], none⟩] [(6, 3)] none
def c44_1 : IC := .reg [⟨(some 10), .fa 0, [.b 0 3], none⟩, ⟨(some 11), .ld 1 false, [.l 10], none⟩, ⟨(some 12), .call 55, [.l 11], none⟩, ⟨(some 9), .mv, [.l 12], none⟩, ⟨(some 13), .ex 0, [.l 9], none⟩, ⟨(some 14), .ex 1, [.l 9], none⟩, ⟨(some 7), .mv, [.l 13], none⟩, ⟨(some 8), .mv, [.l 14], none⟩] [(8, 4)] none
def c44_2 : IC := .reg [⟨(some 6), .mv, [.c (.bool false)], none⟩] [(6, 3)] none
def c44_3 : IC := .seq c44_2 .ret
def c44_4 : IC := .regc [⟨(some 15), .mv, [.v 4 8], none⟩, ⟨(some 16), .not, [.l 15], none⟩, ⟨(some 17), .mv, [.l 16], none⟩, ⟨(some 18), .mv, [.v 2 2], (some (17, false))⟩, ⟨(some 19), .call 14, [.l 18, .c (.int .i64 1), .c (.int .i64 4)], (some (17, false))⟩, ⟨(some 20), .not, [.l 19], (some (17, false))⟩, ⟨(some 21), .pick, [.l 17, .c (.bool true), .l 20], none⟩, ⟨(some 22), .mv, [.l 21], none⟩, ⟨(some 23), .fa 1, [.b 0 3], (some (22, false))⟩, ⟨(some 24), .ld 1 false, [.l 23], (some (22, false))⟩, ⟨(some 25), .fa 0, [.b 0 3], (some (22, false))⟩, ⟨(some 26), .ld 1 false, [.l 25], (some (22, false))⟩, ⟨(some 27), .call 57, [.l 26, .c (.int .u8 82)], (some (22, false))⟩, ⟨(some 28), .call 56, [.l 24, .l 27], (some (22, false))⟩, ⟨(some 29), .not, [.l 28], (some (22, false))⟩, ⟨(some 30), .pick, [.l 22, .c (.bool true), .l 29], none⟩, ⟨(some 31), .mv, [.l 30], none⟩, ⟨(some 32), .fa 2, [.b 0 3], (some (31, false))⟩, ⟨(some 33), .ld 1 false, [.l 32], (some (31, false))⟩, ⟨(some 34), .fa 0, [.b 0 3], (some (31, false))⟩, ⟨(some 35), .ld 1 false, [.l 34], (some (31, false))⟩, ⟨(some 36), .call 57, [.l 35, .c (.int .u8 65)], (some (31, false))⟩, ⟨(some 37), .call 56, [.l 33, .l 36], (some (31, false))⟩, ⟨(some 38), .not, [.l 37], (some (31, false))⟩, ⟨(some 39), .pick, [.l 31, .c (.bool true), .l 38], none⟩, ⟨(some 40), .mv, [.l 39], none⟩, ⟨(some 41), .fa 3, [.b 0 3], (some (40, false))⟩, ⟨(some 42), .ld 1 false, [.l 41], (some (40, false))⟩, ⟨(some 43), .fa 0, [.b 0 3], (some (40, false))⟩, ⟨(some 44), .ld 1 false, [.l 43], (some (40, false))⟩, ⟨(some 45), .call 57, [.l 44, .c (.int .u8 66)], (some (40, false))⟩, ⟨(some 46), .call 56, [.l 42, .l 45], (some (40, false))⟩, ⟨(some 47), .not, [.l 46], (some (40, false))⟩, ⟨(some 48), .pick, [.l 40, .c (.bool true), .l 47], none⟩] [] (some 0) (.l 48) c44_3 .skip
def c44_5 : IC := .reg [⟨(some 53), .fa 4, [.b 0 3], none⟩, ⟨(some 54), .ld 1 false, [.l 53], none⟩, ⟨(some 55), .call 48, [.l 54], none⟩, ⟨(some 6), .mv, [.l 55], none⟩] [(6, 3)] none
def c44_6 : IC := .seq c44_5 .ret
def c44_7 : IC := .reg [⟨(some 60), .fa 4, [.b 0 3], none⟩, ⟨(some 61), .ld 1 false, [.l 60], none⟩, ⟨(some 62), .mv, [.v 2 2], none⟩, ⟨(some 63), .bin .sub .int, [.l 62, .c (.int .i64 1)], none⟩, ⟨(some 64), .call 14, [.l 61, .c (.int .i64 0), .l 63], none⟩, ⟨(some 6), .mv, [.l 64], none⟩] [(6, 3)] none
def c44_8 : IC := .seq c44_7 .ret
def c44_9 : IC := .reg [⟨(some 69), .fa 4, [.b 0 3], none⟩, ⟨(some 70), .ld 1 false, [.l 69], none⟩, ⟨(some 71), .bin .eql .int, [.l 70, .c (.int .i64 9)], none⟩, ⟨(some 72), .mv, [.l 71], none⟩, ⟨(some 73), .fa 4, [.b 0 3], (some (72, false))⟩, ⟨(some 74), .ld 1 false, [.l 73], (some (72, false))⟩, ⟨(some 75), .mv, [.v 2 2], (some (72, false))⟩, ⟨(some 76), .bin .sub .int, [.l 75, .c (.int .i64 1)], (some (72, false))⟩, ⟨(some 77), .call 14, [.l 74, .c (.int .i64 0), .l 76], (some (72, false))⟩, ⟨(some 78), .pick, [.l 72, .c (.bool true), .l 77], none⟩, ⟨(some 6), .mv, [.l 78], none⟩] [(6, 3)] none
def c44_10 : IC := .seq c44_9 .ret
def c44_11 : IC := .reg [⟨(some 83), .fa 4, [.b 0 3], none⟩, ⟨(some 84), .ld 1 false, [.l 83], none⟩, ⟨(some 85), .bin .geq .int, [.l 84, .c (.int .i64 0)], none⟩, ⟨(some 86), .mv, [.l 85], none⟩, ⟨(some 87), .fa 4, [.b 0 3], (some (86, true))⟩, ⟨(some 88), .ld 1 false, [.l 87], (some (86, true))⟩, ⟨(some 89), .mv, [.v 1 1], (some (86, true))⟩, ⟨(some 90), .bin .lss .int, [.l 88, .l 89], (some (86, true))⟩, ⟨(some 91), .pick, [.l 86, .l 90, .c (.bool false)], none⟩, ⟨(some 6), .mv, [.l 91], none⟩] [(6, 3)] none
def c44_12 : IC := .seq c44_11 .ret
def c44_13 : IC := .regc [⟨(some 80), .fa 0, [.b 0 3], none⟩, ⟨(some 81), .ld 1 false, [.l 80], none⟩, ⟨(some 82), .call 57, [.l 81, .c (.int .u8 76)], none⟩, ⟨(some 79), .mv, [.l 82], none⟩] [] none (.l 79) c44_12 .skip
def c44_14 : IC := .regc [⟨(some 66), .fa 0, [.b 0 3], none⟩, ⟨(some 67), .ld 1 false, [.l 66], none⟩, ⟨(some 68), .call 57, [.l 67, .c (.int .u8 84)], none⟩, ⟨(some 65), .mv, [.l 68], none⟩] [] none (.l 65) c44_10 c44_13
def c44_15 : IC := .regc [⟨(some 57), .fa 0, [.b 0 3], none⟩, ⟨(some 58), .ld 1 false, [.l 57], none⟩, ⟨(some 59), .call 57, [.l 58, .c (.int .u8 80)], none⟩, ⟨(some 56), .mv, [.l 59], none⟩] [] none (.l 56) c44_8 c44_14
def c44_16 : IC := .regc [⟨(some 50), .fa 0, [.b 0 3], none⟩, ⟨(some 51), .ld 1 false, [.l 50], none⟩, ⟨(some 52), .call 57, [.l 51, .c (.int .u8 78)], none⟩, ⟨(some 49), .mv, [.l 52], none⟩] [] none (.l 49) c44_6 c44_15
def c44_17 : IC := .block 0 c44_16
def c44_18 : IC := .reg [⟨(some 92), .fa 4, [.b 0 3], none⟩, ⟨(some 93), .ld 1 false, [.l 92], none⟩, ⟨(some 94), .bin .eql .int, [.l 93, .c (.int .i64 0)], none⟩, ⟨(some 6), .mv, [.l 94], none⟩] [(6, 3)] none
def c44_19 : IC := .seq c44_18 .ret
def c44_20 : IC := .seq c44_17 c44_19
def c44_21 : IC := .seq c44_4 c44_20
def c44_22 : IC := .seq c44_1 c44_21
def c44_23 : IC := .seq c44_0 c44_22
def c44 : IFun := ⟨3, [.v 3 6], c44_23⟩
theorem comp44 : compile Try.prog Try.f44 [6, 8] [3] = some c44 := by kernel_rfl
theorem go44 {args : List Value} (hl : args.length = 3) {H : Heap} {Q : List Value → Heap → Prop} (h : ∀ C, Ok pg C → W pg C c44_23 ⟨args.map some ++ List.replicate 2 none, List.replicate 1 [], H⟩ (Fin [.v 3 6] Q)) : ICall pg 44 args H Q :=
  call_go Try.func44 (by kernel_rfl) mixed comp44 hl h
/-- spec.l1DrawAny -/
def c45_0 : IC := .reg [⟨(some 2), .mv, [.c (.slice none 0 0)], none⟩] [(2, 1)] none
def c45_1 : IC := .reg [⟨(some 5), .mv, [.v 0 0], none⟩, ⟨(some 6), .mv, [.v 0 0], none⟩, ⟨(some 7), .call 29, [.l 6, .c (.int .i64 3)], none⟩, ⟨(some 8), .call 58, [.l 5, .c (.int .i64 3), .l 7], none⟩, ⟨(some 3), .mv, [.l 8], none⟩] [(3, 2)] none
def c45_2 : IC := .reg [⟨(some 11), .mv, [.v 0 0], none⟩, ⟨(some 12), .mv, [.v 2 3], none⟩, ⟨(some 13), .len, [.l 12], none⟩, ⟨(some 14), .call 29, [.l 11, .l 13], none⟩, ⟨(some 4), .mv, [.l 14], none⟩] [(4, 3)] none
def c45_3 : IC := .reg [⟨(some 15), .mv, [.v 2 3], none⟩, ⟨(some 16), .mv, [.v 3 4], none⟩, ⟨(some 17), .mv, [.v 0 0], none⟩, ⟨(some 18), .mv, [.v 2 3], none⟩, ⟨(some 19), .mv, [.v 3 4], none⟩, ⟨(some 20), .ia 5, [.l 18, .l 19], none⟩, ⟨(some 21), .ld 5 true, [.l 20], none⟩, ⟨(some 22), .call 60, [.l 17, .l 21], none⟩, ⟨(some 23), .ia 5, [.l 15, .l 16], none⟩, ⟨none, .st 5, [.l 23, .l 22], none⟩] [] none
def c45_4 : IC := .seq c45_2 c45_3
def c45_5 : IC := .regc [⟨(some 9), .mv, [.v 0 0], none⟩, ⟨(some 10), .call 59, [.l 9, .c (.int .i64 5)], none⟩] [] none (.l 10) c45_4 .skip
def c45_6 : IC := .exit 0
def c45_7 : IC := .regc [⟨(some 26), .mv, [.v 2 3], none⟩, ⟨(some 27), .len, [.l 26], none⟩, ⟨(some 28), .mv, [.v 0 0], none⟩, ⟨(some 29), .call 29, [.l 28, .c (.int .i64 2)], none⟩, ⟨(some 30), .bin .add .int, [.c (.int .i64 30), .l 29], none⟩, ⟨(some 31), .bin .lss .int, [.l 27, .l 30], none⟩] [] none (.l 31) .skip c45_6
def c45_8 : IC := .reg [⟨(some 32), .mv, [.v 2 3], none⟩, ⟨(some 33), .bd [.int .i64 0, .int .i64 0, .int .i64 0, .int .i64 0, .int .i64 0] [(0, 1)], [.c (.int .i64 11)], none⟩, ⟨(some 34), .bs 1 5 [.int .i64 0, .int .i64 0, .int .i64 0, .int .i64 0, .int .i64 0] [(0, 5)], [.l 33], none⟩, ⟨(some 35), .app 5 40, [.l 32, .l 34], none⟩, ⟨(some 3), .mv, [.l 35], none⟩] [(3, 2)] none
def c45_9 : IC := .block 1 c45_8
def c45_10 : IC := .seq c45_7 c45_9
def c45_11 : IC := .loop c45_10
def c45_12 : IC := .block 0 c45_11
def c45_13 : IC := .regc [⟨(some 24), .mv, [.v 0 0], none⟩, ⟨(some 25), .call 59, [.l 24, .c (.int .i64 40)], none⟩] [] none (.l 25) c45_12 .skip
def c45_14 : IC := .reg [⟨(some 36), .mv, [.v 2 3], none⟩, ⟨(some 2), .mv, [.l 36], none⟩] [(2, 1)] none
def c45_15 : IC := .seq c45_14 .ret
def c45_16 : IC := .seq c45_13 c45_15
def c45_17 : IC := .seq c45_5 c45_16
def c45_18 : IC := .seq c45_1 c45_17
def c45_19 : IC := .seq c45_0 c45_18
def c45 : IFun := ⟨1, [.v 1 2], c45_19⟩
theorem comp45 : compile Try.prog Try.f45 [2, 3, 4] [] = some c45 := by kernel_rfl
theorem go45 {args : List Value} (hl : args.length = 1) {H : Heap} {Q : List Value → Heap → Prop} (h : ∀ C, Ok pg C → W pg C c45_19 ⟨args.map some ++ List.replicate 3 none, List.replicate 0 [], H⟩ (Fin [.v 1 2] Q)) : ICall pg 45 args H Q :=
  call_go Try.func45 (by kernel_rfl) mixed comp45 hl h
/-- spec.l3DrawEvents -/
def c46_0 : IC := .reg [⟨(some 4), .mv, [.c (.slice none 0 0)], none⟩] [(4, 2)] none
def c46_1 : IC := .reg [⟨(some 12), .bs 0 3 [.int .i64 0, .int .i64 0, .int .i64 0] [], [], none⟩, ⟨(some 5), .mv, [.l 12], none⟩] [(5, 3)] none
def c46_2 : IC := .reg [⟨(some 13), .call 53, [], none⟩, ⟨(some 6), .abx 0 [.int .i64 0, .slice none 0 0, .slice none 0 0, .int .i64 0], [], none⟩, ⟨none, .st 4, [.b 0 6, .l 13], none⟩] [] none
def c46_3 : IC := .reg [⟨(some 14), .mv, [.v 0 0], none⟩, ⟨(some 15), .call 29, [.l 14, .c (.int .i64 25)], none⟩, ⟨(some 7), .mv, [.l 15], none⟩] [(7, 4)] none
def c46_4 : IC := .reg [⟨(some 8), .mv, [.c (.int .i64 0)], none⟩] [(8, 5)] none
def c46_5 : IC := .exit 0
def c46_6 : IC := .regc [⟨(some 16), .mv, [.v 5 8], none⟩, ⟨(some 17), .mv, [.v 4 7], none⟩, ⟨(some 18), .bin .lss .int, [.l 16, .l 17], none⟩] [] none (.l 18) .skip c46_5
def c46_7 : IC := .reg [⟨(some 21), .mv, [.v 1 1], none⟩, ⟨(some 22), .ld 4 true, [.b 0 6], none⟩, ⟨(some 23), .call 61, [.l 21, .l 22], none⟩, ⟨(some 9), .abx 1 [.int .i64 0, .int .i64 0, .int .i64 0], [], none⟩, ⟨none, .st 3, [.b 1 9, .l 23], none⟩] [] none
def c46_8 : IC := .reg [⟨(some 30), .mv, [.v 0 0], none⟩, ⟨(some 31), .call 29, [.l 30, .c (.int .i64 3)], none⟩, ⟨(some 32), .fa 1, [.b 1 9], none⟩, ⟨none, .st 1, [.l 32, .l 31], none⟩] [] none
def c46_9 : IC := .regc [⟨(some 27), .fa 1, [.b 1 9], none⟩, ⟨(some 28), .ld 1 false, [.l 27], none⟩, ⟨(some 29), .bin .eql .int, [.l 28, .c (.int .i64 9)], none⟩] [] none (.l 29) c46_8 .skip
def c46_10 : IC := .reg [⟨(some 33), .mv, [.v 0 0], none⟩, ⟨(some 34), .call 29, [.l 33, .c (.int .i64 9)], none⟩, ⟨(some 35), .fa 2, [.b 1 9], none⟩, ⟨none, .st 1, [.l 35, .l 34], none⟩] [] none
def c46_11 : IC := .seq c46_9 c46_10
def c46_12 : IC := .regc [⟨(some 24), .fa 0, [.b 1 9], none⟩, ⟨(some 25), .ld 1 false, [.l 24], none⟩, ⟨(some 26), .bin .eql .int, [.l 25, .c (.int .i64 3)], none⟩] [] none (.l 26) c46_11 .skip
def c46_13 : IC := .reg [⟨(some 37), .mv, [.v 1 1], none⟩, ⟨(some 38), .ld 4 true, [.b 0 6], none⟩, ⟨(some 39), .ld 3 true, [.b 1 9], none⟩, ⟨(some 40), .call 62, [.l 37, .l 38, .l 39], none⟩, ⟨(some 36), .mv, [.l 40], none⟩, ⟨(some 41), .ex 0, [.l 36], none⟩, ⟨(some 42), .ex 1, [.l 36], none⟩, ⟨(some 10), .abx 2 [.int .i64 0, .slice none 0 0, .slice none 0 0, .int .i64 0], [], none⟩, ⟨none, .st 4, [.b 2 10, .l 41], none⟩, ⟨(some 11), .mv, [.l 42], none⟩] [(11, 6)] none
def c46_14 : IC := .reg [⟨(some 45), .mv, [.v 3 5], none⟩, ⟨(some 4), .mv, [.l 45], none⟩] [(4, 2)] none
def c46_15 : IC := .seq c46_14 .ret
def c46_16 : IC := .regc [⟨(some 43), .mv, [.v 6 11], none⟩, ⟨(some 44), .not, [.l 43], none⟩] [] none (.l 44) c46_15 .skip
def c46_17 : IC := .reg [⟨(some 46), .mv, [.v 3 5], none⟩, ⟨(some 47), .ld 3 true, [.b 1 9], none⟩, ⟨(some 48), .bs 1 3 [.int .i64 0, .int .i64 0, .int .i64 0] [(0, 3)], [.l 47], none⟩, ⟨(some 49), .app 3 24, [.l 46, .l 48], none⟩, ⟨(some 5), .mv, [.l 49], none⟩] [(5, 3)] none
def c46_18 : IC := .reg [⟨(some 50), .ld 4 true, [.b 2 10], none⟩, ⟨none, .st 4, [.b 0 6, .l 50], none⟩] [] none
def c46_19 : IC := .seq c46_17 c46_18
def c46_20 : IC := .seq c46_16 c46_19
def c46_21 : IC := .seq c46_13 c46_20
def c46_22 : IC := .seq c46_12 c46_21
def c46_23 : IC := .seq c46_7 c46_22
def c46_24 : IC := .block 1 c46_23
def c46_25 : IC := .reg [⟨(some 19), .mv, [.v 5 8], none⟩, ⟨(some 20), .bin .add .int, [.l 19, .c (.int .i64 1)], none⟩, ⟨(some 8), .mv, [.l 20], none⟩] [(8, 5)] none
def c46_26 : IC := .seq c46_24 c46_25
def c46_27 : IC := .seq c46_6 c46_26
def c46_28 : IC := .loop c46_27
def c46_29 : IC := .block 0 c46_28
def c46_30 : IC := .seq c46_4 c46_29
def c46_31 : IC := .reg [⟨(some 51), .mv, [.v 3 5], none⟩, ⟨(some 4), .mv, [.l 51], none⟩] [(4, 2)] none
def c46_32 : IC := .seq c46_31 .ret
def c46_33 : IC := .seq c46_30 c46_32
def c46_34 : IC := .seq c46_3 c46_33
def c46_35 : IC := .seq c46_2 c46_34
def c46_36 : IC := .seq c46_1 c46_35
def c46_37 : IC := .seq c46_0 c46_36
def c46 : IFun := ⟨2, [.v 2 4], c46_37⟩
theorem comp46 : compile Try.prog Try.f46 [4, 5, 7, 8, 11] [6, 9, 10] = some c46 := by kernel_rfl
theorem go46 {args : List Value} (hl : args.length = 2) {H : Heap} {Q : List Value → Heap → Prop} (h : ∀ C, Ok pg C → W pg C c46_37 ⟨args.map some ++ List.replicate 5 none, List.replicate 3 [], H⟩ (Fin [.v 2 4] Q)) : ICall pg 46 args H Q :=
  call_go Try.func46 (by kernel_rfl) mixed comp46 hl h
end Go.Proofs.Ytpnbojehfngigaa.IM

/- The small codes of the functions, printed by a program of this claim; each is held against the loaded function by the kernel. -/
namespace Go.Proofs.Ytpnbojehfngigaa.IM
open Go Go.Proofs
set_option linter.unusedVariables false
set_option maxRecDepth 100000
/-- spec.l1Byte -/
def c47_0 : IC := .reg [⟨(some 2), .mv, [.c (.int .i64 0)], none⟩] [(2, 1)] none
def c47_1 : IC := .reg [⟨(some 4), .mv, [.v 0 0], none⟩, ⟨(some 5), .mv, [.v 0 0], none⟩, ⟨(some 6), .nc, [.l 5], none⟩, ⟨(some 7), .fa 2, [.l 6], none⟩, ⟨(some 8), .ld 1 false, [.l 7], none⟩, ⟨(some 9), .bin .mul .int, [.l 8, .c (.int .i64 6364136223846793005)], none⟩, ⟨(some 10), .bin .add .int, [.l 9, .c (.int .i64 1442695040888963407)], none⟩, ⟨(some 11), .nc, [.l 4], none⟩, ⟨(some 12), .fa 2, [.l 11], none⟩, ⟨none, .st 1, [.l 12, .l 10], none⟩] [] none
def c47_2 : IC := .reg [⟨(some 13), .mv, [.v 0 0], none⟩, ⟨(some 14), .nc, [.l 13], none⟩, ⟨(some 15), .fa 2, [.l 14], none⟩, ⟨(some 16), .ld 1 false, [.l 15], none⟩, ⟨(some 17), .bin .shr .int, [.l 16, .c (.int .u64 33)], none⟩, ⟨(some 18), .mv, [.v 0 0], none⟩, ⟨(some 19), .nc, [.l 18], none⟩, ⟨(some 20), .fa 2, [.l 19], none⟩, ⟨(some 21), .ld 1 false, [.l 20], none⟩, ⟨(some 22), .bin .shr .int, [.l 21, .c (.int .u64 45)], none⟩, ⟨(some 23), .bin .xor .int, [.l 17, .l 22], none⟩, ⟨(some 24), .bin .and .int, [.l 23, .c (.int .i64 255)], none⟩, ⟨(some 3), .mv, [.l 24], none⟩] [(3, 2)] (some 9)
def c47_3 : IC := .reg [⟨(some 35), .mv, [.v 2 3], none⟩, ⟨(some 36), .mv, [.v 0 0], none⟩, ⟨(some 37), .nc, [.l 36], none⟩, ⟨(some 38), .fa 0, [.l 37], none⟩, ⟨(some 39), .ld 1 false, [.l 38], none⟩, ⟨(some 40), .mv, [.v 0 0], none⟩, ⟨(some 41), .nc, [.l 40], none⟩, ⟨(some 42), .fa 1, [.l 41], none⟩, ⟨(some 43), .ld 1 false, [.l 42], none⟩, ⟨(some 44), .ia 1, [.l 39, .l 43], none⟩, ⟨(some 45), .ld 1 false, [.l 44], none⟩, ⟨(some 46), .cvi .i64, [.l 45], none⟩, ⟨(some 47), .bin .add .int, [.l 35, .l 46], none⟩, ⟨(some 48), .bin .and .int, [.l 47, .c (.int .i64 255)], none⟩, ⟨(some 3), .mv, [.l 48], none⟩] [(3, 2)] (some 9)
def c47_4 : IC := .reg [⟨(some 49), .mv, [.v 0 0], none⟩, ⟨(some 50), .mv, [.v 0 0], none⟩, ⟨(some 51), .nc, [.l 50], none⟩, ⟨(some 52), .fa 1, [.l 51], none⟩, ⟨(some 53), .ld 1 false, [.l 52], none⟩, ⟨(some 54), .bin .add .int, [.l 53, .c (.int .i64 1)], none⟩, ⟨(some 55), .nc, [.l 49], none⟩, ⟨(some 56), .fa 1, [.l 55], none⟩, ⟨none, .st 1, [.l 56, .l 54], none⟩] [] none
def c47_5 : IC := .seq c47_3 c47_4
def c47_6 : IC := .regc [⟨(some 25), .mv, [.v 0 0], none⟩, ⟨(some 26), .nc, [.l 25], none⟩, ⟨(some 27), .fa 1, [.l 26], none⟩, ⟨(some 28), .ld 1 false, [.l 27], none⟩, ⟨(some 29), .mv, [.v 0 0], none⟩, ⟨(some 30), .nc, [.l 29], none⟩, ⟨(some 31), .fa 0, [.l 30], none⟩, ⟨(some 32), .ld 1 false, [.l 31], none⟩, ⟨(some 33), .len, [.l 32], none⟩, ⟨(some 34), .bin .lss .int, [.l 28, .l 33], none⟩] [] (some 8) (.l 34) c47_5 .skip
def c47_7 : IC := .reg [⟨(some 57), .mv, [.v 2 3], none⟩, ⟨(some 2), .mv, [.l 57], none⟩] [(2, 1)] none
def c47_8 : IC := .seq c47_7 .ret
def c47_9 : IC := .seq c47_6 c47_8
def c47_10 : IC := .seq c47_2 c47_9
def c47_11 : IC := .seq c47_1 c47_10
def c47_12 : IC := .seq c47_0 c47_11
def c47 : IFun := ⟨1, [.v 1 2], c47_12⟩
theorem comp47 : compile Try.prog Try.f47 [2, 3] [] = some c47 := by kernel_rfl
theorem go47 {args : List Value} (hl : args.length = 1) {H : Heap} {Q : List Value → Heap → Prop} (h : ∀ C, Ok pg C → W pg C c47_12 ⟨args.map some ++ List.replicate 2 none, List.replicate 0 [], H⟩ (Fin [.v 1 2] Q)) : ICall pg 47 args H Q :=
  call_go Try.func47 (by kernel_rfl) mixed comp47 hl h
/-- impl.numOk -/
def c48_0 : IC := .reg [⟨(some 2), .mv, [.c (.bool false)], none⟩] [(2, 1)] none
def c48_1 : IC := .reg [⟨(some 3), .mv, [.v 0 0], none⟩, ⟨(some 4), .call 14, [.l 3, .c (.int .i64 (-1000000000)), .c (.int .i64 1000000000)], none⟩, ⟨(some 2), .mv, [.l 4], none⟩] [(2, 1)] none
def c48_2 : IC := .seq c48_1 .ret
def c48_3 : IC := .seq c48_0 c48_2
def c48 : IFun := ⟨1, [.v 1 2], c48_3⟩
theorem comp48 : compile Try.prog Try.f48 [2] [] = some c48 := by kernel_rfl
theorem go48 {args : List Value} (hl : args.length = 1) {H : Heap} {Q : List Value → Heap → Prop} (h : ∀ C, Ok pg C → W pg C c48_3 ⟨args.map some ++ List.replicate 1 none, List.replicate 0 [], H⟩ (Fin [.v 1 2] Q)) : ICall pg 48 args H Q :=
  call_go Try.func48 (by kernel_rfl) mixed comp48 hl h
/-- impl.reckoned -/
def c49_0 : IC := .reg [⟨(some 2), .bbx 0 5, [.v 0 0], none⟩, ⟨(some 4), .mv, [.c (.int .i64 0)], none⟩] [(4, 2)] none
def c49_1 : IC := .reg [⟨(some 5), .fa 0, [.b 0 2], none⟩, ⟨(some 6), .ld 1 false, [.l 5], none⟩] [(6, 3)] none
def c49_2 : IC := .reg [⟨(some 9), .fa 4, [.b 0 2], none⟩, ⟨(some 10), .ld 1 false, [.l 9], none⟩, ⟨(some 4), .mv, [.l 10], none⟩] [(4, 2)] none
def c49_3 : IC := .seq c49_2 .ret
def c49_4 : IC := .reg [⟨(some 13), .mv, [.v 1 1], none⟩, ⟨(some 14), .fa 2, [.b 0 2], none⟩, ⟨(some 15), .ld 1 false, [.l 14], none⟩, ⟨(some 16), .ia 1, [.l 13, .l 15], none⟩, ⟨(some 17), .ld 1 false, [.l 16], none⟩, ⟨(some 18), .mv, [.v 1 1], none⟩, ⟨(some 19), .fa 3, [.b 0 2], none⟩, ⟨(some 20), .ld 1 false, [.l 19], none⟩, ⟨(some 21), .ia 1, [.l 18, .l 20], none⟩, ⟨(some 22), .ld 1 false, [.l 21], none⟩, ⟨(some 23), .bin .add .int, [.l 17, .l 22], none⟩, ⟨(some 4), .mv, [.l 23], none⟩] [(4, 2)] (some 10)
def c49_5 : IC := .seq c49_4 .ret
def c49_6 : IC := .reg [⟨(some 26), .mv, [.v 1 1], none⟩, ⟨(some 27), .fa 2, [.b 0 2], none⟩, ⟨(some 28), .ld 1 false, [.l 27], none⟩, ⟨(some 29), .ia 1, [.l 26, .l 28], none⟩, ⟨(some 30), .ld 1 false, [.l 29], none⟩, ⟨(some 31), .mv, [.v 1 1], none⟩, ⟨(some 32), .fa 3, [.b 0 2], none⟩, ⟨(some 33), .ld 1 false, [.l 32], none⟩, ⟨(some 34), .ia 1, [.l 31, .l 33], none⟩, ⟨(some 35), .ld 1 false, [.l 34], none⟩, ⟨(some 36), .bin .sub .int, [.l 30, .l 35], none⟩, ⟨(some 4), .mv, [.l 36], none⟩] [(4, 2)] (some 10)
def c49_7 : IC := .seq c49_6 .ret
def c49_8 : IC := .reg [⟨(some 39), .mv, [.v 1 1], none⟩, ⟨(some 40), .fa 2, [.b 0 2], none⟩, ⟨(some 41), .ld 1 false, [.l 40], none⟩, ⟨(some 42), .ia 1, [.l 39, .l 41], none⟩, ⟨(some 43), .ld 1 false, [.l 42], none⟩, ⟨(some 44), .mv, [.v 1 1], none⟩, ⟨(some 45), .fa 3, [.b 0 2], none⟩, ⟨(some 46), .ld 1 false, [.l 45], none⟩, ⟨(some 47), .ia 1, [.l 44, .l 46], none⟩, ⟨(some 48), .ld 1 false, [.l 47], none⟩, ⟨(some 49), .bin .mul .int, [.l 43, .l 48], none⟩, ⟨(some 4), .mv, [.l 49], none⟩] [(4, 2)] (some 10)
def c49_9 : IC := .seq c49_8 .ret
def c49_10 : IC := .regc [⟨(some 38), .bin .eql .int, [.v 3 6, .c (.int .i64 4)], none⟩, ⟨(some 37), .mv, [.l 38], none⟩] [] none (.l 37) c49_9 .skip
def c49_11 : IC := .regc [⟨(some 25), .bin .eql .int, [.v 3 6, .c (.int .i64 3)], none⟩, ⟨(some 24), .mv, [.l 25], none⟩] [] none (.l 24) c49_7 c49_10
def c49_12 : IC := .regc [⟨(some 12), .bin .eql .int, [.v 3 6, .c (.int .i64 2)], none⟩, ⟨(some 11), .mv, [.l 12], none⟩] [] none (.l 11) c49_5 c49_11
def c49_13 : IC := .regc [⟨(some 8), .bin .eql .int, [.v 3 6, .c (.int .i64 1)], none⟩, ⟨(some 7), .mv, [.l 8], none⟩] [] none (.l 7) c49_3 c49_12
def c49_14 : IC := .block 0 c49_13
def c49_15 : IC := .seq c49_1 c49_14
def c49_16 : IC := .reg [⟨(some 4), .mv, [.c (.int .i64 1)], none⟩] [(4, 2)] none
def c49_17 : IC := .seq c49_16 .ret
def c49_18 : IC := .regc [⟨(some 50), .mv, [.v 1 1], none⟩, ⟨(some 51), .fa 2, [.b 0 2], none⟩, ⟨(some 52), .ld 1 false, [.l 51], none⟩, ⟨(some 53), .ia 1, [.l 50, .l 52], none⟩, ⟨(some 54), .ld 1 false, [.l 53], none⟩, ⟨(some 55), .mv, [.v 1 1], none⟩, ⟨(some 56), .fa 3, [.b 0 2], none⟩, ⟨(some 57), .ld 1 false, [.l 56], none⟩, ⟨(some 58), .ia 1, [.l 55, .l 57], none⟩, ⟨(some 59), .ld 1 false, [.l 58], none⟩, ⟨(some 60), .bin .lss .int, [.l 54, .l 59], none⟩] [] (some 10) (.l 60) c49_17 .skip
def c49_19 : IC := .reg [⟨(some 4), .mv, [.c (.int .i64 0)], none⟩] [(4, 2)] none
def c49_20 : IC := .seq c49_19 .ret
def c49_21 : IC := .seq c49_18 c49_20
def c49_22 : IC := .seq c49_15 c49_21
def c49_23 : IC := .seq c49_0 c49_22
def c49 : IFun := ⟨2, [.v 2 4], c49_23⟩
theorem comp49 : compile Try.prog Try.f49 [4, 6] [2] = some c49 := by kernel_rfl
theorem go49 {args : List Value} (hl : args.length = 2) {H : Heap} {Q : List Value → Heap → Prop} (h : ∀ C, Ok pg C → W pg C c49_23 ⟨args.map some ++ List.replicate 2 none, List.replicate 1 [], H⟩ (Fin [.v 2 4] Q)) : ICall pg 49 args H Q :=
  call_go Try.func49 (by kernel_rfl) mixed comp49 hl h
/-- impl.faulted -/
def c50_0 : IC := .reg [⟨(some 1), .bbx 0 4, [.v 0 0], none⟩, ⟨(some 2), .abx 1 [.int .i64 0, .slice none 0 0, .slice none 0 0, .int .i64 0], [], none⟩] [] none
def c50_1 : IC := .reg [⟨(some 4), .ld 4 true, [.b 0 1], none⟩, ⟨(some 5), .call 16, [.l 4], none⟩, ⟨(some 3), .abx 2 [.int .i64 0, .slice none 0 0, .slice none 0 0, .int .i64 0], [], none⟩, ⟨none, .st 4, [.b 2 3, .l 5], none⟩] [] none
def c50_2 : IC := .reg [⟨(some 6), .fa 3, [.b 2 3], none⟩, ⟨none, .st 1, [.l 6, .c (.int .i64 2)], none⟩] [] none
def c50_3 : IC := .reg [⟨(some 7), .ld 4 true, [.b 2 3], none⟩, ⟨none, .st 4, [.b 1 2, .l 7], none⟩] [] none
def c50_4 : IC := .seq c50_3 .ret
def c50_5 : IC := .seq c50_2 c50_4
def c50_6 : IC := .seq c50_1 c50_5
def c50_7 : IC := .seq c50_0 c50_6
def c50 : IFun := ⟨1, [.b 1 2 4 true], c50_7⟩
theorem comp50 : compile Try.prog Try.f50 [] [1, 2, 3] = some c50 := by kernel_rfl
theorem go50 {args : List Value} (hl : args.length = 1) {H : Heap} {Q : List Value → Heap → Prop} (h : ∀ C, Ok pg C → W pg C c50_7 ⟨args.map some ++ List.replicate 0 none, List.replicate 3 [], H⟩ (Fin [.b 1 2 4 true] Q)) : ICall pg 50 args H Q :=
  call_go Try.func50 (by kernel_rfl) mixed comp50 hl h
/-- impl.goesOn -/
def c51_0 : IC := .reg [⟨(some 4), .bbx 0 4, [.v 1 1], none⟩, ⟨(some 6), .abx 1 [.int .i64 0, .slice none 0 0, .slice none 0 0, .int .i64 0], [], none⟩] [] none
def c51_1 : IC := .reg [⟨(some 13), .fa 3, [.b 0 4], none⟩, ⟨none, .st 1, [.l 13, .c (.int .i64 2)], none⟩] [] none
def c51_2 : IC := .reg [⟨(some 14), .ld 4 true, [.b 0 4], none⟩, ⟨none, .st 4, [.b 1 6, .l 14], none⟩] [] none
def c51_3 : IC := .seq c51_2 .ret
def c51_4 : IC := .seq c51_1 c51_3
def c51_5 : IC := .regc [⟨(some 7), .mv, [.v 2 2], none⟩, ⟨(some 8), .mv, [.v 0 0], none⟩, ⟨(some 9), .len, [.l 8], none⟩, ⟨(some 10), .bin .sub .int, [.l 9, .c (.int .i64 1)], none⟩, ⟨(some 11), .call 14, [.l 7, .c (.int .i64 0), .l 10], none⟩, ⟨(some 12), .not, [.l 11], none⟩] [] none (.l 12) c51_4 .skip
def c51_6 : IC := .reg [⟨(some 15), .mv, [.v 2 2], none⟩, ⟨(some 16), .fa 0, [.b 0 4], none⟩, ⟨none, .st 1, [.l 16, .l 15], none⟩] [] none
def c51_7 : IC := .reg [⟨(some 17), .ld 4 true, [.b 0 4], none⟩, ⟨none, .st 4, [.b 1 6, .l 17], none⟩] [] none
def c51_8 : IC := .seq c51_7 .ret
def c51_9 : IC := .seq c51_6 c51_8
def c51_10 : IC := .seq c51_5 c51_9
def c51_11 : IC := .seq c51_0 c51_10
def c51 : IFun := ⟨3, [.b 1 6 4 true], c51_11⟩
theorem comp51 : compile Try.prog Try.f51 [] [4, 6] = some c51 := by kernel_rfl
theorem go51 {args : List Value} (hl : args.length = 3) {H : Heap} {Q : List Value → Heap → Prop} (h : ∀ C, Ok pg C → W pg C c51_11 ⟨args.map some ++ List.replicate 0 none, List.replicate 2 [], H⟩ (Fin [.b 1 6 4 true] Q)) : ICall pg 51 args H Q :=
  call_go Try.func51 (by kernel_rfl) mixed comp51 hl h
/-- spec.InsOk -/
def c52_0 : IC := .reg [⟨(some 3), .bbx 0 5, [.v 0 0], none⟩, ⟨(some 6), .mv, [.c (.bool false)], none⟩] [(6, 3)] none
def c52_1 : IC := .reg [⟨(some 6), .mv, [.c (.bool false)], none⟩] [(6, 3)] none
def c52_2 : IC := .seq c52_1 .ret
def c52_3 : IC := .regc [⟨(some 9), .fa 1, [.b 0 3], none⟩, ⟨(some 10), .ld 1 false, [.l 9], none⟩, ⟨(some 11), .call 17, [.l 10, .c (.int .i64 0), .c (.int .i64 3)], none⟩, ⟨(some 12), .not, [.l 11], none⟩, ⟨(some 13), .mv, [.l 12], none⟩, ⟨(some 14), .fa 2, [.b 0 3], (some (13, false))⟩, ⟨(some 15), .ld 1 false, [.l 14], (some (13, false))⟩, ⟨(some 16), .call 17, [.l 15, .c (.int .i64 0), .c (.int .i64 3)], (some (13, false))⟩, ⟨(some 17), .not, [.l 16], (some (13, false))⟩, ⟨(some 18), .pick, [.l 13, .c (.bool true), .l 17], none⟩, ⟨(some 19), .mv, [.l 18], none⟩, ⟨(some 20), .fa 3, [.b 0 3], (some (19, false))⟩, ⟨(some 21), .ld 1 false, [.l 20], (some (19, false))⟩, ⟨(some 22), .call 17, [.l 21, .c (.int .i64 0), .c (.int .i64 3)], (some (19, false))⟩, ⟨(some 23), .not, [.l 22], (some (19, false))⟩, ⟨(some 24), .pick, [.l 19, .c (.bool true), .l 23], none⟩, ⟨(some 25), .mv, [.l 24], none⟩, ⟨(some 26), .mv, [.v 2 2], (some (25, false))⟩, ⟨(some 27), .call 17, [.l 26, .c (.int .i64 1), .c (.int .i64 4)], (some (25, false))⟩, ⟨(some 28), .not, [.l 27], (some (25, false))⟩, ⟨(some 29), .pick, [.l 25, .c (.bool true), .l 28], none⟩] [] none (.l 29) c52_2 .skip
def c52_4 : IC := .reg [⟨(some 30), .fa 4, [.b 0 3], none⟩, ⟨(some 31), .ld 1 false, [.l 30], none⟩, ⟨(some 32), .mv, [.v 2 2], none⟩, ⟨(some 33), .bin .sub .int, [.l 32, .c (.int .i64 1)], none⟩, ⟨(some 34), .call 17, [.l 31, .c (.int .i64 0), .l 33], none⟩, ⟨(some 7), .mv, [.l 34], none⟩] [(7, 4)] none
def c52_5 : IC := .reg [⟨(some 35), .fa 4, [.b 0 3], none⟩, ⟨(some 36), .ld 1 false, [.l 35], none⟩, ⟨(some 37), .bin .geq .int, [.l 36, .c (.int .i64 0)], none⟩, ⟨(some 38), .mv, [.l 37], none⟩, ⟨(some 39), .fa 4, [.b 0 3], (some (38, true))⟩, ⟨(some 40), .ld 1 false, [.l 39], (some (38, true))⟩, ⟨(some 41), .mv, [.v 1 1], (some (38, true))⟩, ⟨(some 42), .bin .lss .int, [.l 40, .l 41], (some (38, true))⟩, ⟨(some 43), .pick, [.l 38, .l 42, .c (.bool false)], none⟩, ⟨(some 8), .mv, [.l 43], none⟩] [(8, 5)] none
def c52_6 : IC := .reg [⟨(some 44), .fa 0, [.b 0 3], none⟩, ⟨(some 45), .ld 1 false, [.l 44], none⟩] [(45, 6)] none
def c52_7 : IC := .reg [⟨(some 48), .fa 4, [.b 0 3], none⟩, ⟨(some 49), .ld 1 false, [.l 48], none⟩, ⟨(some 50), .call 35, [.l 49], none⟩, ⟨(some 51), .mv, [.l 50], none⟩, ⟨(some 52), .fa 2, [.b 0 3], (some (51, true))⟩, ⟨(some 53), .ld 1 false, [.l 52], (some (51, true))⟩, ⟨(some 54), .bin .eql .int, [.l 53, .c (.int .i64 0)], (some (51, true))⟩, ⟨(some 55), .pick, [.l 51, .l 54, .c (.bool false)], none⟩, ⟨(some 56), .mv, [.l 55], none⟩, ⟨(some 57), .fa 3, [.b 0 3], (some (56, true))⟩, ⟨(some 58), .ld 1 false, [.l 57], (some (56, true))⟩, ⟨(some 59), .bin .eql .int, [.l 58, .c (.int .i64 0)], (some (56, true))⟩, ⟨(some 60), .pick, [.l 56, .l 59, .c (.bool false)], none⟩, ⟨(some 6), .mv, [.l 60], none⟩] [(6, 3)] none
def c52_8 : IC := .seq c52_7 .ret
def c52_9 : IC := .reg [⟨(some 65), .bin .eql .int, [.v 6 45, .c (.int .i64 5)], none⟩, ⟨(some 61), .mv, [.l 65], none⟩] [(61, 7)] none
def c52_10 : IC := .regc [⟨(some 64), .bin .eql .int, [.v 6 45, .c (.int .i64 4)], none⟩, ⟨(some 61), .mv, [.l 64], none⟩] [(61, 7)] none (.v 7 61) .skip c52_9
def c52_11 : IC := .regc [⟨(some 63), .bin .eql .int, [.v 6 45, .c (.int .i64 3)], none⟩, ⟨(some 61), .mv, [.l 63], none⟩] [(61, 7)] none (.v 7 61) .skip c52_10
def c52_12 : IC := .regc [⟨(some 62), .bin .eql .int, [.v 6 45, .c (.int .i64 2)], none⟩, ⟨(some 61), .mv, [.l 62], none⟩] [(61, 7)] none (.v 7 61) .skip c52_11
def c52_13 : IC := .reg [⟨(some 66), .fa 4, [.b 0 3], none⟩, ⟨(some 67), .ld 1 false, [.l 66], none⟩, ⟨(some 68), .bin .eql .int, [.l 67, .c (.int .i64 0)], none⟩, ⟨(some 6), .mv, [.l 68], none⟩] [(6, 3)] none
def c52_14 : IC := .seq c52_13 .ret
def c52_15 : IC := .reg [⟨(some 71), .mv, [.v 4 7], none⟩, ⟨(some 72), .mv, [.l 71], none⟩, ⟨(some 73), .fa 1, [.b 0 3], (some (72, true))⟩, ⟨(some 74), .ld 1 false, [.l 73], (some (72, true))⟩, ⟨(some 75), .bin .eql .int, [.l 74, .c (.int .i64 0)], (some (72, true))⟩, ⟨(some 76), .pick, [.l 72, .l 75, .c (.bool false)], none⟩, ⟨(some 77), .mv, [.l 76], none⟩, ⟨(some 78), .fa 3, [.b 0 3], (some (77, true))⟩, ⟨(some 79), .ld 1 false, [.l 78], (some (77, true))⟩, ⟨(some 80), .bin .eql .int, [.l 79, .c (.int .i64 0)], (some (77, true))⟩, ⟨(some 81), .pick, [.l 77, .l 80, .c (.bool false)], none⟩, ⟨(some 6), .mv, [.l 81], none⟩] [(6, 3)] none
def c52_16 : IC := .seq c52_15 .ret
def c52_17 : IC := .reg [⟨(some 84), .mv, [.v 4 7], none⟩, ⟨(some 85), .mv, [.l 84], none⟩, ⟨(some 86), .fa 4, [.b 0 3], (some (85, false))⟩, ⟨(some 87), .ld 1 false, [.l 86], (some (85, false))⟩, ⟨(some 88), .bin .eql .int, [.l 87, .c (.int .i64 9)], (some (85, false))⟩, ⟨(some 89), .pick, [.l 85, .c (.bool true), .l 88], none⟩, ⟨(some 90), .mv, [.l 89], none⟩, ⟨(some 91), .fa 2, [.b 0 3], (some (90, true))⟩, ⟨(some 92), .ld 1 false, [.l 91], (some (90, true))⟩, ⟨(some 93), .bin .eql .int, [.l 92, .c (.int .i64 0)], (some (90, true))⟩, ⟨(some 94), .pick, [.l 90, .l 93, .c (.bool false)], none⟩, ⟨(some 95), .mv, [.l 94], none⟩, ⟨(some 96), .fa 3, [.b 0 3], (some (95, true))⟩, ⟨(some 97), .ld 1 false, [.l 96], (some (95, true))⟩, ⟨(some 98), .bin .eql .int, [.l 97, .c (.int .i64 0)], (some (95, true))⟩, ⟨(some 99), .pick, [.l 95, .l 98, .c (.bool false)], none⟩, ⟨(some 6), .mv, [.l 99], none⟩] [(6, 3)] none
def c52_18 : IC := .seq c52_17 .ret
def c52_19 : IC := .reg [⟨(some 102), .fa 1, [.b 0 3], none⟩, ⟨(some 103), .ld 1 false, [.l 102], none⟩, ⟨(some 104), .bin .eql .int, [.l 103, .c (.int .i64 0)], none⟩, ⟨(some 105), .mv, [.l 104], none⟩, ⟨(some 106), .fa 3, [.b 0 3], (some (105, true))⟩, ⟨(some 107), .ld 1 false, [.l 106], (some (105, true))⟩, ⟨(some 108), .bin .eql .int, [.l 107, .c (.int .i64 0)], (some (105, true))⟩, ⟨(some 109), .pick, [.l 105, .l 108, .c (.bool false)], none⟩, ⟨(some 110), .mv, [.l 109], none⟩, ⟨(some 111), .fa 4, [.b 0 3], (some (110, true))⟩, ⟨(some 112), .ld 1 false, [.l 111], (some (110, true))⟩, ⟨(some 113), .bin .eql .int, [.l 112, .c (.int .i64 0)], (some (110, true))⟩, ⟨(some 114), .pick, [.l 110, .l 113, .c (.bool false)], none⟩, ⟨(some 6), .mv, [.l 114], none⟩] [(6, 3)] none
def c52_20 : IC := .seq c52_19 .ret
def c52_21 : IC := .reg [⟨(some 117), .mv, [.v 5 8], none⟩, ⟨(some 118), .mv, [.l 117], none⟩, ⟨(some 119), .fa 1, [.b 0 3], (some (118, true))⟩, ⟨(some 120), .ld 1 false, [.l 119], (some (118, true))⟩, ⟨(some 121), .bin .eql .int, [.l 120, .c (.int .i64 0)], (some (118, true))⟩, ⟨(some 122), .pick, [.l 118, .l 121, .c (.bool false)], none⟩, ⟨(some 123), .mv, [.l 122], none⟩, ⟨(some 124), .fa 2, [.b 0 3], (some (123, true))⟩, ⟨(some 125), .ld 1 false, [.l 124], (some (123, true))⟩, ⟨(some 126), .bin .eql .int, [.l 125, .c (.int .i64 0)], (some (123, true))⟩, ⟨(some 127), .pick, [.l 123, .l 126, .c (.bool false)], none⟩, ⟨(some 128), .mv, [.l 127], none⟩, ⟨(some 129), .fa 3, [.b 0 3], (some (128, true))⟩, ⟨(some 130), .ld 1 false, [.l 129], (some (128, true))⟩, ⟨(some 131), .bin .eql .int, [.l 130, .c (.int .i64 0)], (some (128, true))⟩, ⟨(some 132), .pick, [.l 128, .l 131, .c (.bool false)], none⟩, ⟨(some 6), .mv, [.l 132], none⟩] [(6, 3)] none
def c52_22 : IC := .seq c52_21 .ret
def c52_23 : IC := .reg [⟨(some 135), .mv, [.v 5 8], none⟩, ⟨(some 136), .mv, [.l 135], none⟩, ⟨(some 137), .fa 1, [.b 0 3], (some (136, true))⟩, ⟨(some 138), .ld 1 false, [.l 137], (some (136, true))⟩, ⟨(some 139), .bin .eql .int, [.l 138, .c (.int .i64 0)], (some (136, true))⟩, ⟨(some 140), .pick, [.l 136, .l 139, .c (.bool false)], none⟩, ⟨(some 141), .mv, [.l 140], none⟩, ⟨(some 142), .fa 3, [.b 0 3], (some (141, true))⟩, ⟨(some 143), .ld 1 false, [.l 142], (some (141, true))⟩, ⟨(some 144), .bin .eql .int, [.l 143, .c (.int .i64 0)], (some (141, true))⟩, ⟨(some 145), .pick, [.l 141, .l 144, .c (.bool false)], none⟩, ⟨(some 6), .mv, [.l 145], none⟩] [(6, 3)] none
def c52_24 : IC := .seq c52_23 .ret
def c52_25 : IC := .reg [⟨(some 148), .ld 5 true, [.b 0 3], none⟩, ⟨(some 149), .bd [.int .i64 0, .int .i64 0, .int .i64 0, .int .i64 0, .int .i64 0] [(0, 1)], [.c (.int .i64 11)], none⟩, ⟨(some 150), .bin .eql (.st [(0, false), (1, false), (2, false), (3, false), (4, false)]), [.l 148, .l 149], none⟩, ⟨(some 6), .mv, [.l 150], none⟩] [(6, 3)] none
def c52_26 : IC := .seq c52_25 .ret
def c52_27 : IC := .regc [⟨(some 147), .bin .eql .int, [.v 6 45, .c (.int .i64 11)], none⟩, ⟨(some 146), .mv, [.l 147], none⟩] [] none (.l 146) c52_26 .skip
def c52_28 : IC := .regc [⟨(some 134), .bin .eql .int, [.v 6 45, .c (.int .i64 10)], none⟩, ⟨(some 133), .mv, [.l 134], none⟩] [] none (.l 133) c52_24 c52_27
def c52_29 : IC := .regc [⟨(some 116), .bin .eql .int, [.v 6 45, .c (.int .i64 9)], none⟩, ⟨(some 115), .mv, [.l 116], none⟩] [] none (.l 115) c52_22 c52_28
def c52_30 : IC := .regc [⟨(some 101), .bin .eql .int, [.v 6 45, .c (.int .i64 8)], none⟩, ⟨(some 100), .mv, [.l 101], none⟩] [] none (.l 100) c52_20 c52_29
def c52_31 : IC := .regc [⟨(some 83), .bin .eql .int, [.v 6 45, .c (.int .i64 7)], none⟩, ⟨(some 82), .mv, [.l 83], none⟩] [] none (.l 82) c52_18 c52_30
def c52_32 : IC := .regc [⟨(some 70), .bin .eql .int, [.v 6 45, .c (.int .i64 6)], none⟩, ⟨(some 69), .mv, [.l 70], none⟩] [] none (.l 69) c52_16 c52_31
def c52_33 : IC := .cond (.v 7 61) c52_14 c52_32
def c52_34 : IC := .seq c52_12 c52_33
def c52_35 : IC := .regc [⟨(some 47), .bin .eql .int, [.v 6 45, .c (.int .i64 1)], none⟩, ⟨(some 46), .mv, [.l 47], none⟩] [] none (.l 46) c52_8 c52_34
def c52_36 : IC := .block 0 c52_35
def c52_37 : IC := .seq c52_6 c52_36
def c52_38 : IC := .reg [⟨(some 6), .mv, [.c (.bool false)], none⟩] [(6, 3)] none
def c52_39 : IC := .seq c52_38 .ret
def c52_40 : IC := .seq c52_37 c52_39
def c52_41 : IC := .seq c52_5 c52_40
def c52_42 : IC := .seq c52_4 c52_41
def c52_43 : IC := .seq c52_3 c52_42
def c52_44 : IC := .seq c52_0 c52_43
def c52 : IFun := ⟨3, [.v 3 6], c52_44⟩
theorem comp52 : compile Try.prog Try.f52 [6, 7, 8, 45, 61] [3] = some c52 := by kernel_rfl
theorem go52 {args : List Value} (hl : args.length = 3) {H : Heap} {Q : List Value → Heap → Prop} (h : ∀ C, Ok pg C → W pg C c52_44 ⟨args.map some ++ List.replicate 5 none, List.replicate 1 [], H⟩ (Fin [.v 3 6] Q)) : ICall pg 52 args H Q :=
  call_go Try.func52 (by kernel_rfl) mixed comp52 hl h
/-- spec.StateNew -/
def c53_0 : IC := .reg [⟨(some 0), .abx 0 [.int .i64 0, .slice none 0 0, .slice none 0 0, .int .i64 0], [], none⟩] [] none
def c53_1 : IC := .reg [⟨(some 1), .mk [.int .i64 0] 8, [.c (.int .i64 4), .c (.int .i64 4)], none⟩, ⟨(some 2), .bd [.int .i64 0, .slice none 0 0, .slice none 0 0, .int .i64 0] [(1, 1)], [.l 1], none⟩, ⟨none, .st 4, [.b 0 0, .l 2], none⟩] [] none
def c53_2 : IC := .seq c53_1 .ret
def c53_3 : IC := .seq c53_0 c53_2
def c53 : IFun := ⟨0, [.b 0 0 4 true], c53_3⟩
theorem comp53 : compile Try.prog Try.f53 [] [0] = some c53 := by kernel_rfl
theorem go53 {args : List Value} (hl : args.length = 0) {H : Heap} {Q : List Value → Heap → Prop} (h : ∀ C, Ok pg C → W pg C c53_3 ⟨args.map some ++ List.replicate 0 none, List.replicate 1 [], H⟩ (Fin [.b 0 0 4 true] Q)) : ICall pg 53 args H Q :=
  call_go Try.func53 (by kernel_rfl) mixed comp53 hl h
/-- slices.IndexFunc[[]impl.Ins,impl.Ins] -/
def c54_0 : IC := .reg [⟨(some 4), .mv, [.c (.int .i64 0)], none⟩] [(4, 2)] none
def c54_1 : IC := .reg [⟨(some 6), .mv, [.v 0 0], none⟩, ⟨(some 7), .len, [.l 6], none⟩, ⟨(some 8), .mv, [.c (.int .i64 0)], none⟩] [(7, 4), (8, 5)] none
def c54_2 : IC := .reg [⟨(some 9), .bin .lss .int, [.v 5 8, .v 4 7], none⟩] [(9, 6)] none
def c54_3 : IC := .exit 0
def c54_4 : IC := .cond (.v 6 9) .skip c54_3
def c54_5 : IC := .reg [⟨(some 10), .mv, [.v 5 8], none⟩, ⟨(some 5), .mv, [.l 10], none⟩] [(5, 3)] none
def c54_6 : IC := .reg [⟨(some 17), .mv, [.v 3 5], none⟩, ⟨(some 4), .mv, [.l 17], none⟩] [(4, 2)] none
def c54_7 : IC := .seq c54_6 .ret
def c54_8 : IC := .regc [⟨(some 11), .mv, [.v 1 1], none⟩, ⟨(some 12), .mv, [.v 0 0], none⟩, ⟨(some 13), .mv, [.v 3 5], none⟩, ⟨(some 14), .ia 5, [.l 12, .l 13], none⟩, ⟨(some 15), .ld 5 true, [.l 14], none⟩, ⟨(some 16), .callv, [.l 11, .l 15], none⟩] [] none (.l 16) c54_7 .skip
def c54_9 : IC := .seq c54_5 c54_8
def c54_10 : IC := .block 1 c54_9
def c54_11 : IC := .reg [⟨(some 18), .bin .add .int, [.v 5 8, .c (.int .i64 1)], none⟩, ⟨(some 8), .mv, [.l 18], none⟩] [(8, 5)] none
def c54_12 : IC := .seq c54_10 c54_11
def c54_13 : IC := .seq c54_4 c54_12
def c54_14 : IC := .seq c54_2 c54_13
def c54_15 : IC := .loop c54_14
def c54_16 : IC := .block 0 c54_15
def c54_17 : IC := .seq c54_1 c54_16
def c54_18 : IC := .reg [⟨(some 4), .mv, [.c (.int .i64 (-1))], none⟩] [(4, 2)] none
def c54_19 : IC := .seq c54_18 .ret
def c54_20 : IC := .seq c54_17 c54_19
def c54_21 : IC := .seq c54_0 c54_20
def c54 : IFun := ⟨2, [.v 2 4], c54_21⟩
theorem comp54 : compile Try.prog Try.f54 [4, 5, 7, 8, 9] [] = some c54 := by kernel_rfl
theorem go54 {args : List Value} (hl : args.length = 2) {H : Heap} {Q : List Value → Heap → Prop} (h : ∀ C, Ok pg C → W pg C c54_21 ⟨args.map some ++ List.replicate 5 none, List.replicate 0 [], H⟩ (Fin [.v 2 4] Q)) : ICall pg 54 args H Q :=
  call_go Try.func54 (by kernel_rfl) mixed comp54 hl h
/-- impl.form -/
def c55_0 : IC := .reg [⟨(some 2), .mv, [.c (.string ⟨#[]⟩)], none⟩, ⟨(some 3), .mv, [.c (.bool false)], none⟩] [(2, 1), (3, 2)] none
def c55_1 : IC := .reg [⟨(some 4), .mv, [.v 0 0], none⟩] [(4, 3)] none
def c55_2 : IC := .reg [⟨(some 2), .mv, [.c (.string ⟨#[82, 78]⟩)], none⟩, ⟨(some 3), .mv, [.c (.bool true)], none⟩] [(2, 1), (3, 2)] none
def c55_3 : IC := .seq c55_2 .ret
def c55_4 : IC := .reg [⟨(some 11), .bin .eql .int, [.v 3 4, .c (.int .i64 5)], none⟩, ⟨(some 7), .mv, [.l 11], none⟩] [(7, 4)] none
def c55_5 : IC := .regc [⟨(some 10), .bin .eql .int, [.v 3 4, .c (.int .i64 4)], none⟩, ⟨(some 7), .mv, [.l 10], none⟩] [(7, 4)] none (.v 4 7) .skip c55_4
def c55_6 : IC := .regc [⟨(some 9), .bin .eql .int, [.v 3 4, .c (.int .i64 3)], none⟩, ⟨(some 7), .mv, [.l 9], none⟩] [(7, 4)] none (.v 4 7) .skip c55_5
def c55_7 : IC := .regc [⟨(some 8), .bin .eql .int, [.v 3 4, .c (.int .i64 2)], none⟩, ⟨(some 7), .mv, [.l 8], none⟩] [(7, 4)] none (.v 4 7) .skip c55_6
def c55_8 : IC := .reg [⟨(some 2), .mv, [.c (.string ⟨#[82, 65, 66]⟩)], none⟩, ⟨(some 3), .mv, [.c (.bool true)], none⟩] [(2, 1), (3, 2)] none
def c55_9 : IC := .seq c55_8 .ret
def c55_10 : IC := .reg [⟨(some 2), .mv, [.c (.string ⟨#[80, 65]⟩)], none⟩, ⟨(some 3), .mv, [.c (.bool true)], none⟩] [(2, 1), (3, 2)] none
def c55_11 : IC := .seq c55_10 .ret
def c55_12 : IC := .reg [⟨(some 2), .mv, [.c (.string ⟨#[82, 84]⟩)], none⟩, ⟨(some 3), .mv, [.c (.bool true)], none⟩] [(2, 1), (3, 2)] none
def c55_13 : IC := .seq c55_12 .ret
def c55_14 : IC := .reg [⟨(some 2), .mv, [.c (.string ⟨#[65]⟩)], none⟩, ⟨(some 3), .mv, [.c (.bool true)], none⟩] [(2, 1), (3, 2)] none
def c55_15 : IC := .seq c55_14 .ret
def c55_16 : IC := .reg [⟨(some 2), .mv, [.c (.string ⟨#[76]⟩)], none⟩, ⟨(some 3), .mv, [.c (.bool true)], none⟩] [(2, 1), (3, 2)] none
def c55_17 : IC := .seq c55_16 .ret
def c55_18 : IC := .reg [⟨(some 2), .mv, [.c (.string ⟨#[65, 76]⟩)], none⟩, ⟨(some 3), .mv, [.c (.bool true)], none⟩] [(2, 1), (3, 2)] none
def c55_19 : IC := .seq c55_18 .ret
def c55_20 : IC := .regc [⟨(some 21), .bin .eql .int, [.v 3 4, .c (.int .i64 10)], none⟩, ⟨(some 20), .mv, [.l 21], none⟩] [] none (.l 20) c55_19 .skip
def c55_21 : IC := .regc [⟨(some 19), .bin .eql .int, [.v 3 4, .c (.int .i64 9)], none⟩, ⟨(some 18), .mv, [.l 19], none⟩] [] none (.l 18) c55_17 c55_20
def c55_22 : IC := .regc [⟨(some 17), .bin .eql .int, [.v 3 4, .c (.int .i64 8)], none⟩, ⟨(some 16), .mv, [.l 17], none⟩] [] none (.l 16) c55_15 c55_21
def c55_23 : IC := .regc [⟨(some 15), .bin .eql .int, [.v 3 4, .c (.int .i64 7)], none⟩, ⟨(some 14), .mv, [.l 15], none⟩] [] none (.l 14) c55_13 c55_22
def c55_24 : IC := .regc [⟨(some 13), .bin .eql .int, [.v 3 4, .c (.int .i64 6)], none⟩, ⟨(some 12), .mv, [.l 13], none⟩] [] none (.l 12) c55_11 c55_23
def c55_25 : IC := .cond (.v 4 7) c55_9 c55_24
def c55_26 : IC := .seq c55_7 c55_25
def c55_27 : IC := .regc [⟨(some 6), .bin .eql .int, [.v 3 4, .c (.int .i64 1)], none⟩, ⟨(some 5), .mv, [.l 6], none⟩] [] none (.l 5) c55_3 c55_26
def c55_28 : IC := .block 0 c55_27
def c55_29 : IC := .seq c55_1 c55_28
def c55_30 : IC := .reg [⟨(some 22), .mv, [.v 0 0], none⟩, ⟨(some 23), .bin .eql .int, [.l 22, .c (.int .i64 11)], none⟩, ⟨(some 2), .mv, [.c (.string ⟨#[]⟩)], none⟩, ⟨(some 3), .mv, [.l 23], none⟩] [(2, 1), (3, 2)] none
def c55_31 : IC := .seq c55_30 .ret
def c55_32 : IC := .seq c55_29 c55_31
def c55_33 : IC := .seq c55_0 c55_32
def c55 : IFun := ⟨1, [.v 1 2, .v 2 3], c55_33⟩
theorem comp55 : compile Try.prog Try.f55 [2, 3, 4, 7] [] = some c55 := by kernel_rfl
theorem go55 {args : List Value} (hl : args.length = 1) {H : Heap} {Q : List Value → Heap → Prop} (h : ∀ C, Ok pg C → W pg C c55_33 ⟨args.map some ++ List.replicate 4 none, List.replicate 0 [], H⟩ (Fin [.v 1 2, .v 2 3] Q)) : ICall pg 55 args H Q :=
  call_go Try.func55 (by kernel_rfl) mixed comp55 hl h
/-- impl.regOk -/
def c56_0 : IC := .reg [⟨(some 4), .mv, [.c (.bool false)], none⟩] [(4, 2)] none
def c56_1 : IC := .reg [⟨(some 5), .mv, [.v 0 0], none⟩, ⟨(some 6), .bin .eql .int, [.l 5, .c (.int .i64 0)], none⟩, ⟨(some 7), .mv, [.l 6], none⟩, ⟨(some 8), .mv, [.v 1 1], (some (7, false))⟩, ⟨(some 9), .mv, [.l 8], (some (7, false))⟩, ⟨(some 10), .mv, [.v 0 0], (some (9, true))⟩, ⟨(some 11), .call 14, [.l 10, .c (.int .i64 0), .c (.int .i64 3)], (some (9, true))⟩, ⟨(some 12), .pick, [.l 9, .l 11, .c (.bool false)], (some (7, false))⟩, ⟨(some 13), .pick, [.l 7, .c (.bool true), .l 12], none⟩, ⟨(some 4), .mv, [.l 13], none⟩] [(4, 2)] none
def c56_2 : IC := .seq c56_1 .ret
def c56_3 : IC := .seq c56_0 c56_2
def c56 : IFun := ⟨2, [.v 2 4], c56_3⟩
theorem comp56 : compile Try.prog Try.f56 [4] [] = some c56 := by kernel_rfl
theorem go56 {args : List Value} (hl : args.length = 2) {H : Heap} {Q : List Value → Heap → Prop} (h : ∀ C, Ok pg C → W pg C c56_3 ⟨args.map some ++ List.replicate 1 none, List.replicate 0 [], H⟩ (Fin [.v 2 4] Q)) : ICall pg 56 args H Q :=
  call_go Try.func56 (by kernel_rfl) mixed comp56 hl h
/-- impl.has -/
def c57_0 : IC := .reg [⟨(some 4), .mv, [.c (.bool false)], none⟩] [(4, 2)] none
def c57_1 : IC := .reg [⟨(some 8), .mv, [.v 0 0], none⟩, ⟨(some 9), .call 55, [.l 8], none⟩, ⟨(some 7), .mv, [.l 9], none⟩, ⟨(some 10), .ex 0, [.l 7], none⟩, ⟨(some 11), .ex 1, [.l 7], none⟩, ⟨(some 5), .mv, [.l 10], none⟩, ⟨(some 6), .mv, [.l 11], none⟩] [(5, 3)] none
def c57_2 : IC := .reg [⟨(some 12), .mv, [.v 3 5], none⟩, ⟨(some 13), .cvs, [.l 12], none⟩, ⟨(some 14), .mv, [.v 1 1], none⟩, ⟨(some 15), .call 63, [.l 13, .l 14], none⟩, ⟨(some 4), .mv, [.l 15], none⟩] [(4, 2)] none
def c57_3 : IC := .seq c57_2 .ret
def c57_4 : IC := .seq c57_1 c57_3
def c57_5 : IC := .seq c57_0 c57_4
def c57 : IFun := ⟨2, [.v 2 4], c57_5⟩
theorem comp57 : compile Try.prog Try.f57 [4, 5] [] = some c57 := by kernel_rfl
theorem go57 {args : List Value} (hl : args.length = 2) {H : Heap} {Q : List Value → Heap → Prop} (h : ∀ C, Ok pg C → W pg C c57_5 ⟨args.map some ++ List.replicate 2 none, List.replicate 0 [], H⟩ (Fin [.v 2 4] Q)) : ICall pg 57 args H Q :=
  call_go Try.func57 (by kernel_rfl) mixed comp57 hl h
/-- spec.l1DrawProg -/
def c58_0 : IC := .reg [⟨(some 6), .mv, [.c (.slice none 0 0)], none⟩] [(6, 3)] none
def c58_1 : IC := .reg [⟨(some 11), .mv, [.v 2 2], none⟩, ⟨(some 12), .bin .add .int, [.l 11, .c (.int .i64 1)], none⟩, ⟨(some 13), .mv, [.v 1 1], none⟩, ⟨(some 14), .bin .rem .int, [.l 12, .l 13], none⟩, ⟨(some 7), .mv, [.l 14], none⟩] [(7, 4)] none
def c58_2 : IC := .reg [⟨(some 15), .mv, [.v 0 0], none⟩, ⟨(some 16), .call 29, [.l 15, .c (.int .i64 4)], none⟩] [(16, 8)] none
def c58_3 : IC := .reg [⟨(some 19), .bd [.int .i64 0, .int .i64 0, .int .i64 0, .int .i64 0, .int .i64 0] [(0, 1), (1, 1), (4, 1)], [.c (.int .i64 1), .c (.int .i64 1), .c (.int .i64 1)], none⟩, ⟨(some 20), .mv, [.v 4 7], none⟩, ⟨(some 21), .bd [.int .i64 0, .int .i64 0, .int .i64 0, .int .i64 0, .int .i64 0] [(0, 1), (4, 1), (2, 1)], [.c (.int .i64 6), .l 20, .c (.int .i64 0)], none⟩, ⟨(some 22), .bd [.int .i64 0, .int .i64 0, .int .i64 0, .int .i64 0, .int .i64 0] [(0, 1), (1, 1), (4, 1)], [.c (.int .i64 7), .c (.int .i64 2), .c (.int .i64 9)], none⟩, ⟨(some 23), .bd [.int .i64 0, .int .i64 0, .int .i64 0, .int .i64 0, .int .i64 0] [(0, 1), (2, 1)], [.c (.int .i64 8), .c (.int .i64 2)], none⟩, ⟨(some 24), .bd [.int .i64 0, .int .i64 0, .int .i64 0, .int .i64 0, .int .i64 0] [(0, 1), (1, 1), (2, 1), (3, 1)], [.c (.int .i64 2), .c (.int .i64 0), .c (.int .i64 2), .c (.int .i64 1)], none⟩, ⟨(some 25), .bd [.int .i64 0, .int .i64 0, .int .i64 0, .int .i64 0, .int .i64 0] [(0, 1), (4, 1)], [.c (.int .i64 9), .c (.int .i64 1)], none⟩, ⟨(some 26), .bs 6 5 [.int .i64 0, .int .i64 0, .int .i64 0, .int .i64 0, .int .i64 0] [(0, 5), (5, 5), (10, 5), (15, 5), (20, 5), (25, 5)], [.l 19, .l 21, .l 22, .l 23, .l 24, .l 25], none⟩, ⟨(some 6), .mv, [.l 26], none⟩] [(6, 3)] none
def c58_4 : IC := .seq c58_3 .ret
def c58_5 : IC := .reg [⟨(some 29), .bd [.int .i64 0, .int .i64 0, .int .i64 0, .int .i64 0, .int .i64 0] [(0, 1), (1, 1), (4, 1)], [.c (.int .i64 7), .c (.int .i64 0), .c (.int .i64 9)], none⟩, ⟨(some 30), .bd [.int .i64 0, .int .i64 0, .int .i64 0, .int .i64 0, .int .i64 0] [(0, 1), (1, 1), (4, 1)], [.c (.int .i64 7), .c (.int .i64 1), .c (.int .i64 9)], none⟩, ⟨(some 31), .bd [.int .i64 0, .int .i64 0, .int .i64 0, .int .i64 0, .int .i64 0] [(0, 1), (1, 1), (2, 1), (3, 1)], [.c (.int .i64 3), .c (.int .i64 2), .c (.int .i64 0), .c (.int .i64 1)], none⟩, ⟨(some 32), .bd [.int .i64 0, .int .i64 0, .int .i64 0, .int .i64 0, .int .i64 0] [(0, 1), (2, 1)], [.c (.int .i64 8), .c (.int .i64 2)], none⟩, ⟨(some 33), .mv, [.v 4 7], none⟩, ⟨(some 34), .bd [.int .i64 0, .int .i64 0, .int .i64 0, .int .i64 0, .int .i64 0] [(0, 1), (4, 1), (2, 1)], [.c (.int .i64 6), .l 33, .c (.int .i64 2)], none⟩, ⟨(some 35), .bd [.int .i64 0, .int .i64 0, .int .i64 0, .int .i64 0, .int .i64 0] [(0, 1), (4, 1)], [.c (.int .i64 9), .c (.int .i64 0)], none⟩, ⟨(some 36), .bs 6 5 [.int .i64 0, .int .i64 0, .int .i64 0, .int .i64 0, .int .i64 0] [(0, 5), (5, 5), (10, 5), (15, 5), (20, 5), (25, 5)], [.l 29, .l 30, .l 31, .l 32, .l 34, .l 35], none⟩, ⟨(some 6), .mv, [.l 36], none⟩] [(6, 3)] none
def c58_6 : IC := .seq c58_5 .ret
def c58_7 : IC := .reg [⟨(some 39), .mv, [.v 0 0], none⟩, ⟨(some 40), .call 29, [.l 39, .c (.int .i64 4)], none⟩, ⟨(some 41), .bin .add .int, [.c (.int .i64 3), .l 40], none⟩, ⟨(some 42), .bd [.int .i64 0, .int .i64 0, .int .i64 0, .int .i64 0, .int .i64 0] [(0, 1), (1, 1), (4, 1)], [.c (.int .i64 1), .c (.int .i64 0), .l 41], none⟩, ⟨(some 43), .bd [.int .i64 0, .int .i64 0, .int .i64 0, .int .i64 0, .int .i64 0] [(0, 1), (1, 1), (4, 1)], [.c (.int .i64 1), .c (.int .i64 1), .c (.int .i64 1)], none⟩, ⟨(some 44), .mv, [.v 4 7], none⟩, ⟨(some 45), .bd [.int .i64 0, .int .i64 0, .int .i64 0, .int .i64 0, .int .i64 0] [(0, 1), (4, 1), (2, 1)], [.c (.int .i64 6), .l 44, .c (.int .i64 0)], none⟩, ⟨(some 46), .bd [.int .i64 0, .int .i64 0, .int .i64 0, .int .i64 0, .int .i64 0] [(0, 1), (1, 1), (2, 1), (3, 1)], [.c (.int .i64 3), .c (.int .i64 0), .c (.int .i64 0), .c (.int .i64 1)], none⟩, ⟨(some 47), .bd [.int .i64 0, .int .i64 0, .int .i64 0, .int .i64 0, .int .i64 0] [(0, 1), (2, 1), (4, 1)], [.c (.int .i64 10), .c (.int .i64 0), .c (.int .i64 6)], none⟩, ⟨(some 48), .bd [.int .i64 0, .int .i64 0, .int .i64 0, .int .i64 0, .int .i64 0] [(0, 1), (4, 1)], [.c (.int .i64 9), .c (.int .i64 2)], none⟩, ⟨(some 49), .bd [.int .i64 0, .int .i64 0, .int .i64 0, .int .i64 0, .int .i64 0] [(0, 1), (1, 1), (4, 1)], [.c (.int .i64 7), .c (.int .i64 3), .c (.int .i64 9)], none⟩, ⟨(some 50), .bd [.int .i64 0, .int .i64 0, .int .i64 0, .int .i64 0, .int .i64 0] [(0, 1), (2, 1)], [.c (.int .i64 8), .c (.int .i64 3)], none⟩, ⟨(some 51), .bd [.int .i64 0, .int .i64 0, .int .i64 0, .int .i64 0, .int .i64 0] [(0, 1)], [.c (.int .i64 11)], none⟩, ⟨(some 52), .bs 9 5 [.int .i64 0, .int .i64 0, .int .i64 0, .int .i64 0, .int .i64 0] [(0, 5), (5, 5), (10, 5), (15, 5), (20, 5), (25, 5), (30, 5), (35, 5), (40, 5)], [.l 42, .l 43, .l 45, .l 46, .l 47, .l 48, .l 49, .l 50, .l 51], none⟩, ⟨(some 6), .mv, [.l 52], none⟩] [(6, 3)] none
def c58_8 : IC := .seq c58_7 .ret
def c58_9 : IC := .regc [⟨(some 38), .bin .eql .int, [.v 8 16, .c (.int .i64 2)], none⟩, ⟨(some 37), .mv, [.l 38], none⟩] [] none (.l 37) c58_8 .skip
def c58_10 : IC := .regc [⟨(some 28), .bin .eql .int, [.v 8 16, .c (.int .i64 1)], none⟩, ⟨(some 27), .mv, [.l 28], none⟩] [] none (.l 27) c58_6 c58_9
def c58_11 : IC := .regc [⟨(some 18), .bin .eql .int, [.v 8 16, .c (.int .i64 0)], none⟩, ⟨(some 17), .mv, [.l 18], none⟩] [] none (.l 17) c58_4 c58_10
def c58_12 : IC := .block 0 c58_11
def c58_13 : IC := .seq c58_2 c58_12
def c58_14 : IC := .reg [⟨(some 53), .mv, [.v 0 0], none⟩, ⟨(some 54), .call 29, [.l 53, .c (.int .i64 8)], none⟩, ⟨(some 55), .bin .add .int, [.c (.int .i64 3), .l 54], none⟩, ⟨(some 8), .mv, [.l 55], none⟩] [(8, 5)] none
def c58_15 : IC := .reg [⟨(some 56), .bs 0 5 [.int .i64 0, .int .i64 0, .int .i64 0, .int .i64 0, .int .i64 0] [], [], none⟩, ⟨(some 9), .mv, [.l 56], none⟩] [(9, 6)] none
def c58_16 : IC := .reg [⟨(some 10), .mv, [.c (.int .i64 0)], none⟩] [(10, 7)] none
def c58_17 : IC := .exit 1
def c58_18 : IC := .regc [⟨(some 57), .mv, [.v 7 10], none⟩, ⟨(some 58), .mv, [.v 5 8], none⟩, ⟨(some 59), .bin .lss .int, [.l 57, .l 58], none⟩] [] none (.l 59) .skip c58_17
def c58_19 : IC := .reg [⟨(some 62), .mv, [.v 6 9], none⟩, ⟨(some 63), .mv, [.v 0 0], none⟩, ⟨(some 64), .mv, [.v 5 8], none⟩, ⟨(some 65), .bin .add .int, [.l 64, .c (.int .i64 1)], none⟩, ⟨(some 66), .mv, [.v 1 1], none⟩, ⟨(some 67), .call 64, [.l 63, .l 65, .l 66], none⟩, ⟨(some 68), .bs 1 5 [.int .i64 0, .int .i64 0, .int .i64 0, .int .i64 0, .int .i64 0] [(0, 5)], [.l 67], none⟩, ⟨(some 69), .app 5 40, [.l 62, .l 68], none⟩, ⟨(some 9), .mv, [.l 69], none⟩] [(9, 6)] none
def c58_20 : IC := .block 2 c58_19
def c58_21 : IC := .reg [⟨(some 60), .mv, [.v 7 10], none⟩, ⟨(some 61), .bin .add .int, [.l 60, .c (.int .i64 1)], none⟩, ⟨(some 10), .mv, [.l 61], none⟩] [(10, 7)] none
def c58_22 : IC := .seq c58_20 c58_21
def c58_23 : IC := .seq c58_18 c58_22
def c58_24 : IC := .loop c58_23
def c58_25 : IC := .block 1 c58_24
def c58_26 : IC := .seq c58_16 c58_25
def c58_27 : IC := .reg [⟨(some 70), .mv, [.v 6 9], none⟩, ⟨(some 71), .mv, [.v 0 0], none⟩, ⟨(some 72), .bs 2 1 [.int .i64 0] [(0, 1), (1, 1)], [.c (.int .i64 11), .c (.int .i64 9)], none⟩, ⟨(some 73), .call 65, [.l 71, .l 72], none⟩, ⟨(some 74), .bd [.int .i64 0, .int .i64 0, .int .i64 0, .int .i64 0, .int .i64 0] [(0, 1)], [.l 73], none⟩, ⟨(some 75), .bs 1 5 [.int .i64 0, .int .i64 0, .int .i64 0, .int .i64 0, .int .i64 0] [(0, 5)], [.l 74], none⟩, ⟨(some 76), .app 5 40, [.l 70, .l 75], none⟩, ⟨(some 6), .mv, [.l 76], none⟩] [(6, 3)] none
def c58_28 : IC := .seq c58_27 .ret
def c58_29 : IC := .seq c58_26 c58_28
def c58_30 : IC := .seq c58_15 c58_29
def c58_31 : IC := .seq c58_14 c58_30
def c58_32 : IC := .seq c58_13 c58_31
def c58_33 : IC := .seq c58_1 c58_32
def c58_34 : IC := .seq c58_0 c58_33
def c58 : IFun := ⟨3, [.v 3 6], c58_34⟩
theorem comp58 : compile Try.prog Try.f58 [6, 7, 8, 9, 10, 16] [] = some c58 := by kernel_rfl
theorem go58 {args : List Value} (hl : args.length = 3) {H : Heap} {Q : List Value → Heap → Prop} (h : ∀ C, Ok pg C → W pg C c58_34 ⟨args.map some ++ List.replicate 6 none, List.replicate 0 [], H⟩ (Fin [.v 3 6] Q)) : ICall pg 58 args H Q :=
  call_go Try.func58 (by kernel_rfl) mixed comp58 hl h
/-- spec.l1Once -/
def c59_0 : IC := .reg [⟨(some 4), .mv, [.c (.bool false)], none⟩] [(4, 2)] none
def c59_1 : IC := .reg [⟨(some 5), .mv, [.v 0 0], none⟩, ⟨(some 6), .mv, [.v 1 1], none⟩, ⟨(some 7), .call 29, [.l 5, .l 6], none⟩, ⟨(some 8), .bin .eql .int, [.l 7, .c (.int .i64 0)], none⟩, ⟨(some 4), .mv, [.l 8], none⟩] [(4, 2)] none
def c59_2 : IC := .seq c59_1 .ret
def c59_3 : IC := .seq c59_0 c59_2
def c59 : IFun := ⟨2, [.v 2 4], c59_3⟩
theorem comp59 : compile Try.prog Try.f59 [4] [] = some c59 := by kernel_rfl
theorem go59 {args : List Value} (hl : args.length = 2) {H : Heap} {Q : List Value → Heap → Prop} (h : ∀ C, Ok pg C → W pg C c59_3 ⟨args.map some ++ List.replicate 1 none, List.replicate 0 [], H⟩ (Fin [.v 2 4] Q)) : ICall pg 59 args H Q :=
  call_go Try.func59 (by kernel_rfl) mixed comp59 hl h
/-- spec.l1Spoil -/
def c60_0 : IC := .reg [⟨(some 3), .bbx 0 5, [.v 1 1], none⟩, ⟨(some 4), .abx 1 [.int .i64 0, .int .i64 0, .int .i64 0, .int .i64 0, .int .i64 0], [], none⟩] [] none
def c60_1 : IC := .reg [⟨(some 5), .mv, [.v 0 0], none⟩, ⟨(some 6), .call 29, [.l 5, .c (.int .i64 8)], none⟩] [(6, 2)] none
def c60_2 : IC := .reg [⟨(some 9), .mv, [.v 0 0], none⟩, ⟨(some 10), .call 29, [.l 9, .c (.int .i64 14)], none⟩, ⟨(some 11), .bin .sub .int, [.l 10, .c (.int .i64 1)], none⟩, ⟨(some 12), .fa 0, [.b 0 3], none⟩, ⟨none, .st 1, [.l 12, .l 11], none⟩] [] none
def c60_3 : IC := .reg [⟨(some 15), .mv, [.v 0 0], none⟩, ⟨(some 16), .call 29, [.l 15, .c (.int .i64 6)], none⟩, ⟨(some 17), .bin .sub .int, [.l 16, .c (.int .i64 1)], none⟩, ⟨(some 18), .fa 1, [.b 0 3], none⟩, ⟨none, .st 1, [.l 18, .l 17], none⟩] [] none
def c60_4 : IC := .reg [⟨(some 21), .mv, [.v 0 0], none⟩, ⟨(some 22), .call 29, [.l 21, .c (.int .i64 6)], none⟩, ⟨(some 23), .bin .sub .int, [.l 22, .c (.int .i64 1)], none⟩, ⟨(some 24), .fa 2, [.b 0 3], none⟩, ⟨none, .st 1, [.l 24, .l 23], none⟩] [] none
def c60_5 : IC := .reg [⟨(some 27), .mv, [.v 0 0], none⟩, ⟨(some 28), .call 29, [.l 27, .c (.int .i64 6)], none⟩, ⟨(some 29), .bin .sub .int, [.l 28, .c (.int .i64 1)], none⟩, ⟨(some 30), .fa 3, [.b 0 3], none⟩, ⟨none, .st 1, [.l 30, .l 29], none⟩] [] none
def c60_6 : IC := .reg [⟨(some 33), .mv, [.v 0 0], none⟩, ⟨(some 34), .bs 9 1 [.int .i64 0] [(0, 1), (1, 1), (2, 1), (3, 1), (4, 1), (5, 1), (6, 1), (7, 1), (8, 1)], [.c (.int .i64 (-1)), .c (.int .i64 0), .c (.int .i64 3), .c (.int .i64 4), .c (.int .i64 9), .c (.int .i64 29), .c (.int .i64 30), .c (.int .i64 1000000000), .c (.int .i64 1000000001)], none⟩, ⟨(some 35), .call 65, [.l 33, .l 34], none⟩, ⟨(some 36), .fa 4, [.b 0 3], none⟩, ⟨none, .st 1, [.l 36, .l 35], none⟩] [] none
def c60_7 : IC := .regc [⟨(some 32), .bin .eql .int, [.v 2 6, .c (.int .i64 4)], none⟩, ⟨(some 31), .mv, [.l 32], none⟩] [] none (.l 31) c60_6 .skip
def c60_8 : IC := .regc [⟨(some 26), .bin .eql .int, [.v 2 6, .c (.int .i64 3)], none⟩, ⟨(some 25), .mv, [.l 26], none⟩] [] none (.l 25) c60_5 c60_7
def c60_9 : IC := .regc [⟨(some 20), .bin .eql .int, [.v 2 6, .c (.int .i64 2)], none⟩, ⟨(some 19), .mv, [.l 20], none⟩] [] none (.l 19) c60_4 c60_8
def c60_10 : IC := .regc [⟨(some 14), .bin .eql .int, [.v 2 6, .c (.int .i64 1)], none⟩, ⟨(some 13), .mv, [.l 14], none⟩] [] none (.l 13) c60_3 c60_9
def c60_11 : IC := .regc [⟨(some 8), .bin .eql .int, [.v 2 6, .c (.int .i64 0)], none⟩, ⟨(some 7), .mv, [.l 8], none⟩] [] none (.l 7) c60_2 c60_10
def c60_12 : IC := .block 0 c60_11
def c60_13 : IC := .seq c60_1 c60_12
def c60_14 : IC := .reg [⟨(some 37), .ld 5 true, [.b 0 3], none⟩, ⟨none, .st 5, [.b 1 4, .l 37], none⟩] [] none
def c60_15 : IC := .seq c60_14 .ret
def c60_16 : IC := .seq c60_13 c60_15
def c60_17 : IC := .seq c60_0 c60_16
def c60 : IFun := ⟨2, [.b 1 4 5 true], c60_17⟩
theorem comp60 : compile Try.prog Try.f60 [6] [3, 4] = some c60 := by kernel_rfl
theorem go60 {args : List Value} (hl : args.length = 2) {H : Heap} {Q : List Value → Heap → Prop} (h : ∀ C, Ok pg C → W pg C c60_17 ⟨args.map some ++ List.replicate 1 none, List.replicate 2 [], H⟩ (Fin [.b 1 4 5 true] Q)) : ICall pg 60 args H Q :=
  call_go Try.func60 (by kernel_rfl) mixed comp60 hl h
/-- spec.Next -/
def c61_0 : IC := .reg [⟨(some 3), .bbx 0 4, [.v 1 1], none⟩, ⟨(some 4), .abx 1 [.int .i64 0, .int .i64 0, .int .i64 0], [], none⟩] [] none
def c61_1 : IC := .reg [⟨(some 9), .bd [.int .i64 0, .int .i64 0, .int .i64 0] [], [], none⟩, ⟨none, .st 3, [.b 1 4, .l 9], none⟩] [] none
def c61_2 : IC := .seq c61_1 .ret
def c61_3 : IC := .regc [⟨(some 5), .mv, [.v 0 0], none⟩, ⟨(some 6), .ld 4 true, [.b 0 3], none⟩, ⟨(some 7), .call 66, [.l 5, .l 6], none⟩, ⟨(some 8), .not, [.l 7], none⟩] [] none (.l 8) c61_2 .skip
def c61_4 : IC := .reg [⟨(some 10), .mv, [.v 0 0], none⟩, ⟨(some 11), .ld 4 true, [.b 0 3], none⟩, ⟨(some 12), .call 34, [.l 10, .l 11], none⟩, ⟨none, .st 3, [.b 1 4, .l 12], none⟩] [] none
def c61_5 : IC := .seq c61_4 .ret
def c61_6 : IC := .seq c61_3 c61_5
def c61_7 : IC := .seq c61_0 c61_6
def c61 : IFun := ⟨2, [.b 1 4 3 true], c61_7⟩
theorem comp61 : compile Try.prog Try.f61 [] [3, 4] = some c61 := by kernel_rfl
theorem go61 {args : List Value} (hl : args.length = 2) {H : Heap} {Q : List Value → Heap → Prop} (h : ∀ C, Ok pg C → W pg C c61_7 ⟨args.map some ++ List.replicate 0 none, List.replicate 2 [], H⟩ (Fin [.b 1 4 3 true] Q)) : ICall pg 61 args H Q :=
  call_go Try.func61 (by kernel_rfl) mixed comp61 hl h
/-- spec.Do -/
def c62_0 : IC := .reg [⟨(some 4), .bbx 0 4, [.v 1 1], none⟩, ⟨(some 5), .bbx 1 3, [.v 2 2], none⟩, ⟨(some 6), .abx 2 [.int .i64 0, .slice none 0 0, .slice none 0 0, .int .i64 0], [], none⟩, ⟨(some 7), .mv, [.c (.bool false)], none⟩] [(7, 3)] none
def c62_1 : IC := .reg [⟨(some 12), .ld 4 true, [.b 0 4], none⟩, ⟨(some 13), .call 18, [.l 12], none⟩, ⟨none, .st 4, [.b 2 6, .l 13], none⟩, ⟨(some 7), .mv, [.c (.bool false)], none⟩] [(7, 3)] none
def c62_2 : IC := .seq c62_1 .ret
def c62_3 : IC := .regc [⟨(some 8), .mv, [.v 0 0], none⟩, ⟨(some 9), .ld 4 true, [.b 0 4], none⟩, ⟨(some 10), .call 66, [.l 8, .l 9], none⟩, ⟨(some 11), .not, [.l 10], none⟩] [] none (.l 11) c62_2 .skip
def c62_4 : IC := .reg [⟨(some 14), .mv, [.v 0 0], none⟩, ⟨(some 15), .ld 4 true, [.b 0 4], none⟩, ⟨(some 16), .ld 3 true, [.b 1 5], none⟩, ⟨(some 17), .call 19, [.l 14, .l 15, .l 16], none⟩, ⟨(some 18), .ex 0, [.l 17], none⟩, ⟨(some 19), .ex 1, [.l 17], none⟩, ⟨none, .st 4, [.b 2 6, .l 18], none⟩, ⟨(some 7), .mv, [.l 19], none⟩] [(7, 3)] none
def c62_5 : IC := .seq c62_4 .ret
def c62_6 : IC := .seq c62_3 c62_5
def c62_7 : IC := .seq c62_0 c62_6
def c62 : IFun := ⟨3, [.b 2 6 4 true, .v 3 7], c62_7⟩
theorem comp62 : compile Try.prog Try.f62 [7] [4, 5, 6] = some c62 := by kernel_rfl
theorem go62 {args : List Value} (hl : args.length = 3) {H : Heap} {Q : List Value → Heap → Prop} (h : ∀ C, Ok pg C → W pg C c62_7 ⟨args.map some ++ List.replicate 1 none, List.replicate 3 [], H⟩ (Fin [.b 2 6 4 true, .v 3 7] Q)) : ICall pg 62 args H Q :=
  call_go Try.func62 (by kernel_rfl) mixed comp62 hl h
/-- slices.Contains[[]byte,byte] -/
def c63_0 : IC := .reg [⟨(some 4), .mv, [.c (.bool false)], none⟩] [(4, 2)] none
def c63_1 : IC := .reg [⟨(some 5), .mv, [.v 0 0], none⟩, ⟨(some 6), .mv, [.v 1 1], none⟩, ⟨(some 7), .call 67, [.l 5, .l 6], none⟩, ⟨(some 8), .bin .geq .int, [.l 7, .c (.int .i64 0)], none⟩, ⟨(some 4), .mv, [.l 8], none⟩] [(4, 2)] none
def c63_2 : IC := .seq c63_1 .ret
def c63_3 : IC := .seq c63_0 c63_2
def c63 : IFun := ⟨2, [.v 2 4], c63_3⟩
theorem comp63 : compile Try.prog Try.f63 [4] [] = some c63 := by kernel_rfl
theorem go63 {args : List Value} (hl : args.length = 2) {H : Heap} {Q : List Value → Heap → Prop} (h : ∀ C, Ok pg C → W pg C c63_3 ⟨args.map some ++ List.replicate 1 none, List.replicate 0 [], H⟩ (Fin [.v 2 4] Q)) : ICall pg 63 args H Q :=
  call_go Try.func63 (by kernel_rfl) mixed comp63 hl h
/-- spec.l1DrawIns -/
def c64_0 : IC := .reg [⟨(some 6), .abx 0 [.int .i64 0, .int .i64 0, .int .i64 0, .int .i64 0, .int .i64 0], [], none⟩] [] none
def c64_1 : IC := .reg [⟨(some 10), .mv, [.v 0 0], none⟩, ⟨(some 11), .call 29, [.l 10, .c (.int .i64 4)], none⟩, ⟨(some 12), .mv, [.v 0 0], none⟩, ⟨(some 13), .call 29, [.l 12, .c (.int .i64 4)], none⟩, ⟨(some 14), .mv, [.v 0 0], none⟩, ⟨(some 15), .call 29, [.l 14, .c (.int .i64 4)], none⟩, ⟨(some 7), .mv, [.l 11], none⟩, ⟨(some 8), .mv, [.l 13], none⟩, ⟨(some 9), .mv, [.l 15], none⟩] [(7, 3), (8, 4), (9, 5)] none
def c64_2 : IC := .reg [⟨(some 16), .mv, [.v 0 0], none⟩, ⟨(some 17), .call 29, [.l 16, .c (.int .i64 14)], none⟩] [(17, 6)] none
def c64_3 : IC := .reg [⟨(some 20), .bin .eql .int, [.v 6 17, .c (.int .i64 1)], none⟩, ⟨(some 18), .mv, [.l 20], none⟩] [(18, 7)] none
def c64_4 : IC := .regc [⟨(some 19), .bin .eql .int, [.v 6 17, .c (.int .i64 0)], none⟩, ⟨(some 18), .mv, [.l 19], none⟩] [(18, 7)] none (.v 7 18) .skip c64_3
def c64_5 : IC := .reg [⟨(some 21), .mv, [.v 3 7], none⟩, ⟨(some 22), .mv, [.v 0 0], none⟩, ⟨(some 23), .call 29, [.l 22, .c (.int .i64 9)], none⟩, ⟨(some 24), .bin .sub .int, [.l 23, .c (.int .i64 2)], none⟩, ⟨(some 25), .bd [.int .i64 0, .int .i64 0, .int .i64 0, .int .i64 0, .int .i64 0] [(0, 1), (1, 1), (4, 1)], [.c (.int .i64 1), .l 21, .l 24], none⟩, ⟨none, .st 5, [.b 0 6, .l 25], none⟩] [] none
def c64_6 : IC := .seq c64_5 .ret
def c64_7 : IC := .reg [⟨(some 28), .bin .eql .int, [.v 6 17, .c (.int .i64 3)], none⟩, ⟨(some 26), .mv, [.l 28], none⟩] [(26, 8)] none
def c64_8 : IC := .regc [⟨(some 27), .bin .eql .int, [.v 6 17, .c (.int .i64 2)], none⟩, ⟨(some 26), .mv, [.l 27], none⟩] [(26, 8)] none (.v 8 26) .skip c64_7
def c64_9 : IC := .reg [⟨(some 29), .mv, [.v 0 0], none⟩, ⟨(some 30), .call 29, [.l 29, .c (.int .i64 4)], none⟩, ⟨(some 31), .bin .add .int, [.c (.int .i64 2), .l 30], none⟩, ⟨(some 32), .mv, [.v 3 7], none⟩, ⟨(some 33), .mv, [.v 4 8], none⟩, ⟨(some 34), .mv, [.v 5 9], none⟩, ⟨(some 35), .bd [.int .i64 0, .int .i64 0, .int .i64 0, .int .i64 0, .int .i64 0] [(0, 1), (1, 1), (2, 1), (3, 1)], [.l 31, .l 32, .l 33, .l 34], none⟩, ⟨none, .st 5, [.b 0 6, .l 35], none⟩] [] none
def c64_10 : IC := .seq c64_9 .ret
def c64_11 : IC := .reg [⟨(some 39), .bin .eql .int, [.v 6 17, .c (.int .i64 6)], none⟩, ⟨(some 36), .mv, [.l 39], none⟩] [(36, 9)] none
def c64_12 : IC := .regc [⟨(some 38), .bin .eql .int, [.v 6 17, .c (.int .i64 5)], none⟩, ⟨(some 36), .mv, [.l 38], none⟩] [(36, 9)] none (.v 9 36) .skip c64_11
def c64_13 : IC := .regc [⟨(some 37), .bin .eql .int, [.v 6 17, .c (.int .i64 4)], none⟩, ⟨(some 36), .mv, [.l 37], none⟩] [(36, 9)] none (.v 9 36) .skip c64_12
def c64_14 : IC := .reg [⟨(some 40), .mv, [.v 4 8], none⟩, ⟨(some 41), .mv, [.v 0 0], none⟩, ⟨(some 42), .mv, [.v 2 2], none⟩, ⟨(some 43), .call 29, [.l 41, .l 42], none⟩, ⟨(some 44), .bd [.int .i64 0, .int .i64 0, .int .i64 0, .int .i64 0, .int .i64 0] [(0, 1), (2, 1), (4, 1)], [.c (.int .i64 6), .l 40, .l 43], none⟩, ⟨none, .st 5, [.b 0 6, .l 44], none⟩] [] none
def c64_15 : IC := .seq c64_14 .ret
def c64_16 : IC := .reg [⟨(some 48), .bin .eql .int, [.v 6 17, .c (.int .i64 9)], none⟩, ⟨(some 45), .mv, [.l 48], none⟩] [(45, 10)] none
def c64_17 : IC := .regc [⟨(some 47), .bin .eql .int, [.v 6 17, .c (.int .i64 8)], none⟩, ⟨(some 45), .mv, [.l 47], none⟩] [(45, 10)] none (.v 10 45) .skip c64_16
def c64_18 : IC := .regc [⟨(some 46), .bin .eql .int, [.v 6 17, .c (.int .i64 7)], none⟩, ⟨(some 45), .mv, [.l 46], none⟩] [(45, 10)] none (.v 10 45) .skip c64_17
def c64_19 : IC := .reg [⟨(some 51), .mv, [.v 3 7], none⟩, ⟨(some 52), .bd [.int .i64 0, .int .i64 0, .int .i64 0, .int .i64 0, .int .i64 0] [(0, 1), (1, 1), (4, 1)], [.c (.int .i64 7), .l 51, .c (.int .i64 9)], none⟩, ⟨none, .st 5, [.b 0 6, .l 52], none⟩] [] none
def c64_20 : IC := .seq c64_19 .ret
def c64_21 : IC := .regc [⟨(some 49), .mv, [.v 0 0], none⟩, ⟨(some 50), .call 59, [.l 49, .c (.int .i64 2)], none⟩] [] none (.l 50) c64_20 .skip
def c64_22 : IC := .reg [⟨(some 53), .mv, [.v 3 7], none⟩, ⟨(some 54), .mv, [.v 0 0], none⟩, ⟨(some 55), .mv, [.v 2 2], none⟩, ⟨(some 56), .call 29, [.l 54, .l 55], none⟩, ⟨(some 57), .bd [.int .i64 0, .int .i64 0, .int .i64 0, .int .i64 0, .int .i64 0] [(0, 1), (1, 1), (4, 1)], [.c (.int .i64 7), .l 53, .l 56], none⟩, ⟨none, .st 5, [.b 0 6, .l 57], none⟩] [] none
def c64_23 : IC := .seq c64_22 .ret
def c64_24 : IC := .seq c64_21 c64_23
def c64_25 : IC := .reg [⟨(some 60), .mv, [.v 4 8], none⟩, ⟨(some 61), .bd [.int .i64 0, .int .i64 0, .int .i64 0, .int .i64 0, .int .i64 0] [(0, 1), (2, 1)], [.c (.int .i64 8), .l 60], none⟩, ⟨none, .st 5, [.b 0 6, .l 61], none⟩] [] none
def c64_26 : IC := .seq c64_25 .ret
def c64_27 : IC := .reg [⟨(some 64), .mv, [.v 0 0], none⟩, ⟨(some 65), .mv, [.v 1 1], none⟩, ⟨(some 66), .call 29, [.l 64, .l 65], none⟩, ⟨(some 67), .bd [.int .i64 0, .int .i64 0, .int .i64 0, .int .i64 0, .int .i64 0] [(0, 1), (4, 1)], [.c (.int .i64 9), .l 66], none⟩, ⟨none, .st 5, [.b 0 6, .l 67], none⟩] [] none
def c64_28 : IC := .seq c64_27 .ret
def c64_29 : IC := .reg [⟨(some 70), .mv, [.v 4 8], none⟩, ⟨(some 71), .mv, [.v 0 0], none⟩, ⟨(some 72), .mv, [.v 1 1], none⟩, ⟨(some 73), .call 29, [.l 71, .l 72], none⟩, ⟨(some 74), .bd [.int .i64 0, .int .i64 0, .int .i64 0, .int .i64 0, .int .i64 0] [(0, 1), (2, 1), (4, 1)], [.c (.int .i64 10), .l 70, .l 73], none⟩, ⟨none, .st 5, [.b 0 6, .l 74], none⟩] [] none
def c64_30 : IC := .seq c64_29 .ret
def c64_31 : IC := .regc [⟨(some 69), .bin .eql .int, [.v 6 17, .c (.int .i64 12)], none⟩, ⟨(some 68), .mv, [.l 69], none⟩] [] none (.l 68) c64_30 .skip
def c64_32 : IC := .regc [⟨(some 63), .bin .eql .int, [.v 6 17, .c (.int .i64 11)], none⟩, ⟨(some 62), .mv, [.l 63], none⟩] [] none (.l 62) c64_28 c64_31
def c64_33 : IC := .regc [⟨(some 59), .bin .eql .int, [.v 6 17, .c (.int .i64 10)], none⟩, ⟨(some 58), .mv, [.l 59], none⟩] [] none (.l 58) c64_26 c64_32
def c64_34 : IC := .cond (.v 10 45) c64_24 c64_33
def c64_35 : IC := .seq c64_18 c64_34
def c64_36 : IC := .cond (.v 9 36) c64_15 c64_35
def c64_37 : IC := .seq c64_13 c64_36
def c64_38 : IC := .cond (.v 8 26) c64_10 c64_37
def c64_39 : IC := .seq c64_8 c64_38
def c64_40 : IC := .cond (.v 7 18) c64_6 c64_39
def c64_41 : IC := .seq c64_4 c64_40
def c64_42 : IC := .block 0 c64_41
def c64_43 : IC := .seq c64_2 c64_42
def c64_44 : IC := .reg [⟨(some 75), .mv, [.v 4 8], none⟩, ⟨(some 76), .bd [.int .i64 0, .int .i64 0, .int .i64 0, .int .i64 0, .int .i64 0] [(0, 1), (2, 1)], [.c (.int .i64 8), .l 75], none⟩, ⟨none, .st 5, [.b 0 6, .l 76], none⟩] [] none
def c64_45 : IC := .seq c64_44 .ret
def c64_46 : IC := .seq c64_43 c64_45
def c64_47 : IC := .seq c64_1 c64_46
def c64_48 : IC := .seq c64_0 c64_47
def c64 : IFun := ⟨3, [.b 0 6 5 true], c64_48⟩
theorem comp64 : compile Try.prog Try.f64 [7, 8, 9, 17, 18, 26, 36, 45] [6] = some c64 := by kernel_rfl
theorem go64 {args : List Value} (hl : args.length = 3) {H : Heap} {Q : List Value → Heap → Prop} (h : ∀ C, Ok pg C → W pg C c64_48 ⟨args.map some ++ List.replicate 8 none, List.replicate 1 [], H⟩ (Fin [.b 0 6 5 true] Q)) : ICall pg 64 args H Q :=
  call_go Try.func64 (by kernel_rfl) mixed comp64 hl h
/-- spec.l1PickInt -/
def c65_0 : IC := .reg [⟨(some 4), .mv, [.c (.int .i64 0)], none⟩] [(4, 2)] none
def c65_1 : IC := .reg [⟨(some 5), .mv, [.v 1 1], none⟩, ⟨(some 6), .mv, [.v 0 0], none⟩, ⟨(some 7), .mv, [.v 1 1], none⟩, ⟨(some 8), .len, [.l 7], none⟩, ⟨(some 9), .call 29, [.l 6, .l 8], none⟩, ⟨(some 10), .ia 1, [.l 5, .l 9], none⟩, ⟨(some 11), .ld 1 false, [.l 10], none⟩, ⟨(some 4), .mv, [.l 11], none⟩] [(4, 2)] none
def c65_2 : IC := .seq c65_1 .ret
def c65_3 : IC := .seq c65_0 c65_2
def c65 : IFun := ⟨2, [.v 2 4], c65_3⟩
theorem comp65 : compile Try.prog Try.f65 [4] [] = some c65 := by kernel_rfl
theorem go65 {args : List Value} (hl : args.length = 2) {H : Heap} {Q : List Value → Heap → Prop} (h : ∀ C, Ok pg C → W pg C c65_3 ⟨args.map some ++ List.replicate 1 none, List.replicate 0 [], H⟩ (Fin [.v 2 4] Q)) : ICall pg 65 args H Q :=
  call_go Try.func65 (by kernel_rfl) mixed comp65 hl h
/-- spec.l2Right -/
def c66_0 : IC := .reg [⟨(some 3), .bbx 0 4, [.v 1 1], none⟩, ⟨(some 4), .mv, [.c (.bool false)], none⟩] [(4, 2)] none
def c66_1 : IC := .reg [⟨(some 5), .mv, [.v 0 0], none⟩, ⟨(some 6), .call 40, [.l 5, .c (.int .i64 4)], none⟩, ⟨(some 7), .mv, [.l 6], none⟩, ⟨(some 8), .mv, [.v 0 0], (some (7, true))⟩, ⟨(some 9), .ld 4 true, [.b 0 3], (some (7, true))⟩, ⟨(some 10), .call 68, [.l 8, .l 9], (some (7, true))⟩, ⟨(some 11), .pick, [.l 7, .l 10, .c (.bool false)], none⟩, ⟨(some 12), .mv, [.l 11], none⟩, ⟨(some 13), .fa 3, [.b 0 3], (some (12, true))⟩, ⟨(some 14), .ld 1 false, [.l 13], (some (12, true))⟩, ⟨(some 15), .bin .eql .int, [.l 14, .c (.int .i64 0)], (some (12, true))⟩, ⟨(some 16), .pick, [.l 12, .l 15, .c (.bool false)], none⟩, ⟨(some 4), .mv, [.l 16], none⟩] [(4, 2)] none
def c66_2 : IC := .seq c66_1 .ret
def c66_3 : IC := .seq c66_0 c66_2
def c66 : IFun := ⟨2, [.v 2 4], c66_3⟩
theorem comp66 : compile Try.prog Try.f66 [4] [3] = some c66 := by kernel_rfl
theorem go66 {args : List Value} (hl : args.length = 2) {H : Heap} {Q : List Value → Heap → Prop} (h : ∀ C, Ok pg C → W pg C c66_3 ⟨args.map some ++ List.replicate 1 none, List.replicate 1 [], H⟩ (Fin [.v 2 4] Q)) : ICall pg 66 args H Q :=
  call_go Try.func66 (by kernel_rfl) mixed comp66 hl h
/-- slices.Index[[]byte,byte] -/
def c67_0 : IC := .reg [⟨(some 4), .mv, [.c (.int .i64 0)], none⟩] [(4, 2)] none
def c67_1 : IC := .reg [⟨(some 6), .mv, [.v 0 0], none⟩, ⟨(some 7), .len, [.l 6], none⟩, ⟨(some 8), .mv, [.c (.int .i64 0)], none⟩] [(7, 4), (8, 5)] none
def c67_2 : IC := .reg [⟨(some 9), .bin .lss .int, [.v 5 8, .v 4 7], none⟩] [(9, 6)] none
def c67_3 : IC := .exit 0
def c67_4 : IC := .cond (.v 6 9) .skip c67_3
def c67_5 : IC := .reg [⟨(some 10), .mv, [.v 5 8], none⟩, ⟨(some 5), .mv, [.l 10], none⟩] [(5, 3)] none
def c67_6 : IC := .reg [⟨(some 17), .mv, [.v 3 5], none⟩, ⟨(some 4), .mv, [.l 17], none⟩] [(4, 2)] none
def c67_7 : IC := .seq c67_6 .ret
def c67_8 : IC := .regc [⟨(some 11), .mv, [.v 1 1], none⟩, ⟨(some 12), .mv, [.v 0 0], none⟩, ⟨(some 13), .mv, [.v 3 5], none⟩, ⟨(some 14), .ia 1, [.l 12, .l 13], none⟩, ⟨(some 15), .ld 1 false, [.l 14], none⟩, ⟨(some 16), .bin .eql .int, [.l 11, .l 15], none⟩] [] none (.l 16) c67_7 .skip
def c67_9 : IC := .seq c67_5 c67_8
def c67_10 : IC := .block 1 c67_9
def c67_11 : IC := .reg [⟨(some 18), .bin .add .int, [.v 5 8, .c (.int .i64 1)], none⟩, ⟨(some 8), .mv, [.l 18], none⟩] [(8, 5)] none
def c67_12 : IC := .seq c67_10 c67_11
def c67_13 : IC := .seq c67_4 c67_12
def c67_14 : IC := .seq c67_2 c67_13
def c67_15 : IC := .loop c67_14
def c67_16 : IC := .block 0 c67_15
def c67_17 : IC := .seq c67_1 c67_16
def c67_18 : IC := .reg [⟨(some 4), .mv, [.c (.int .i64 (-1))], none⟩] [(4, 2)] none
def c67_19 : IC := .seq c67_18 .ret
def c67_20 : IC := .seq c67_17 c67_19
def c67_21 : IC := .seq c67_0 c67_20
def c67 : IFun := ⟨2, [.v 2 4], c67_21⟩
theorem comp67 : compile Try.prog Try.f67 [4, 5, 7, 8, 9] [] = some c67 := by kernel_rfl
theorem go67 {args : List Value} (hl : args.length = 2) {H : Heap} {Q : List Value → Heap → Prop} (h : ∀ C, Ok pg C → W pg C c67_21 ⟨args.map some ++ List.replicate 5 none, List.replicate 0 [], H⟩ (Fin [.v 2 4] Q)) : ICall pg 67 args H Q :=
  call_go Try.func67 (by kernel_rfl) mixed comp67 hl h
/-- spec.StateOk -/
def c68_0 : IC := .reg [⟨(some 3), .bbx 0 4, [.v 1 1], none⟩, ⟨(some 4), .mv, [.c (.bool false)], none⟩] [(4, 2)] none
def c68_1 : IC := .reg [⟨(some 4), .mv, [.c (.bool false)], none⟩] [(4, 2)] none
def c68_2 : IC := .seq c68_1 .ret
def c68_3 : IC := .regc [⟨(some 7), .fa 1, [.b 0 3], none⟩, ⟨(some 8), .ld 1 false, [.l 7], none⟩, ⟨(some 9), .len, [.l 8], none⟩, ⟨(some 10), .bin .neq .int, [.l 9, .c (.int .i64 4)], none⟩, ⟨(some 11), .mv, [.l 10], none⟩, ⟨(some 12), .fa 3, [.b 0 3], (some (11, false))⟩, ⟨(some 13), .ld 1 false, [.l 12], (some (11, false))⟩, ⟨(some 14), .call 17, [.l 13, .c (.int .i64 0), .c (.int .i64 2)], (some (11, false))⟩, ⟨(some 15), .not, [.l 14], (some (11, false))⟩, ⟨(some 16), .pick, [.l 11, .c (.bool true), .l 15], none⟩, ⟨(some 17), .mv, [.l 16], none⟩, ⟨(some 18), .fa 0, [.b 0 3], (some (17, false))⟩, ⟨(some 19), .ld 1 false, [.l 18], (some (17, false))⟩, ⟨(some 20), .mv, [.v 0 0], (some (17, false))⟩, ⟨(some 21), .len, [.l 20], (some (17, false))⟩, ⟨(some 22), .bin .sub .int, [.l 21, .c (.int .i64 1)], (some (17, false))⟩, ⟨(some 23), .call 17, [.l 19, .c (.int .i64 0), .l 22], (some (17, false))⟩, ⟨(some 24), .not, [.l 23], (some (17, false))⟩, ⟨(some 25), .pick, [.l 17, .c (.bool true), .l 24], none⟩, ⟨(some 26), .mv, [.l 25], none⟩, ⟨(some 27), .fa 2, [.b 0 3], (some (26, false))⟩, ⟨(some 28), .ld 1 false, [.l 27], (some (26, false))⟩, ⟨(some 29), .len, [.l 28], (some (26, false))⟩, ⟨(some 30), .bin .gtr .int, [.l 29, .c (.int .i64 60)], (some (26, false))⟩, ⟨(some 31), .pick, [.l 26, .c (.bool true), .l 30], none⟩] [] none (.l 31) c68_2 .skip
def c68_4 : IC := .reg [⟨(some 5), .mv, [.c (.int .i64 0)], none⟩] [(5, 3)] none
def c68_5 : IC := .exit 0
def c68_6 : IC := .regc [⟨(some 32), .mv, [.v 3 5], none⟩, ⟨(some 33), .bin .lss .int, [.l 32, .c (.int .i64 4)], none⟩] [] none (.l 33) .skip c68_5
def c68_7 : IC := .reg [⟨(some 4), .mv, [.c (.bool false)], none⟩] [(4, 2)] none
def c68_8 : IC := .seq c68_7 .ret
def c68_9 : IC := .regc [⟨(some 36), .fa 1, [.b 0 3], none⟩, ⟨(some 37), .ld 1 false, [.l 36], none⟩, ⟨(some 38), .mv, [.v 3 5], none⟩, ⟨(some 39), .ia 1, [.l 37, .l 38], none⟩, ⟨(some 40), .ld 1 false, [.l 39], none⟩, ⟨(some 41), .call 35, [.l 40], none⟩, ⟨(some 42), .not, [.l 41], none⟩] [] none (.l 42) c68_8 .skip
def c68_10 : IC := .block 1 c68_9
def c68_11 : IC := .reg [⟨(some 34), .mv, [.v 3 5], none⟩, ⟨(some 35), .bin .add .int, [.l 34, .c (.int .i64 1)], none⟩, ⟨(some 5), .mv, [.l 35], none⟩] [(5, 3)] none
def c68_12 : IC := .seq c68_10 c68_11
def c68_13 : IC := .seq c68_6 c68_12
def c68_14 : IC := .loop c68_13
def c68_15 : IC := .block 0 c68_14
def c68_16 : IC := .seq c68_4 c68_15
def c68_17 : IC := .reg [⟨(some 6), .mv, [.c (.int .i64 0)], none⟩] [(6, 4)] none
def c68_18 : IC := .exit 2
def c68_19 : IC := .regc [⟨(some 43), .mv, [.v 4 6], none⟩, ⟨(some 44), .fa 2, [.b 0 3], none⟩, ⟨(some 45), .ld 1 false, [.l 44], none⟩, ⟨(some 46), .len, [.l 45], none⟩, ⟨(some 47), .bin .lss .int, [.l 43, .l 46], none⟩] [] none (.l 47) .skip c68_18
def c68_20 : IC := .reg [⟨(some 4), .mv, [.c (.bool false)], none⟩] [(4, 2)] none
def c68_21 : IC := .seq c68_20 .ret
def c68_22 : IC := .regc [⟨(some 50), .fa 2, [.b 0 3], none⟩, ⟨(some 51), .ld 1 false, [.l 50], none⟩, ⟨(some 52), .mv, [.v 4 6], none⟩, ⟨(some 53), .ia 1, [.l 51, .l 52], none⟩, ⟨(some 54), .ld 1 false, [.l 53], none⟩, ⟨(some 55), .call 35, [.l 54], none⟩, ⟨(some 56), .not, [.l 55], none⟩] [] none (.l 56) c68_21 .skip
def c68_23 : IC := .block 3 c68_22
def c68_24 : IC := .reg [⟨(some 48), .mv, [.v 4 6], none⟩, ⟨(some 49), .bin .add .int, [.l 48, .c (.int .i64 1)], none⟩, ⟨(some 6), .mv, [.l 49], none⟩] [(6, 4)] none
def c68_25 : IC := .seq c68_23 c68_24
def c68_26 : IC := .seq c68_19 c68_25
def c68_27 : IC := .loop c68_26
def c68_28 : IC := .block 2 c68_27
def c68_29 : IC := .seq c68_17 c68_28
def c68_30 : IC := .reg [⟨(some 4), .mv, [.c (.bool true)], none⟩] [(4, 2)] none
def c68_31 : IC := .seq c68_30 .ret
def c68_32 : IC := .seq c68_29 c68_31
def c68_33 : IC := .seq c68_16 c68_32
def c68_34 : IC := .seq c68_3 c68_33
def c68_35 : IC := .seq c68_0 c68_34
def c68 : IFun := ⟨2, [.v 2 4], c68_35⟩
theorem comp68 : compile Try.prog Try.f68 [4, 5, 6] [3] = some c68 := by kernel_rfl
theorem go68 {args : List Value} (hl : args.length = 2) {H : Heap} {Q : List Value → Heap → Prop} (h : ∀ C, Ok pg C → W pg C c68_35 ⟨args.map some ++ List.replicate 3 none, List.replicate 1 [], H⟩ (Fin [.v 2 4] Q)) : ICall pg 68 args H Q :=
  call_go Try.func68 (by kernel_rfl) mixed comp68 hl h
end Go.Proofs.Ytpnbojehfngigaa.IM

/- What the smallest functions compute. -/
namespace Go.Proofs.Ytpnbojehfngigaa.IM
open Go Go.Proofs Enc Flat
set_option linter.unusedVariables false
set_option linter.unusedSimpArgs false

theorem in_ok (x lo hi : Int) (H : Heap) : ICall pg 14 [.int .i64 x, .int .i64 lo, .int .i64 hi] H (Same H [.bool (inB x lo hi)]) := by
  refine go14 rfl fun C hC => ?_
  repeat' (first
    | refine W_seq ?_
    | refine W_block ?_
    | (refine W_ret ?_; simp [Same, inB])
    | (refine W_skip ?_; simp [Same, inB])
    | (refine W_exit ?_; simp [Same, inB])
    | (refine V_regc hC ?_; simp [Same, inB])
    | (refine V_reg hC ?_; simp [Same, inB])
    | (refine w_split rfl (fun hq => ?_) (fun hq => ?_) <;> (try simp at hq) <;> simp [hq, Same, inB])
    | (refine V_cond rfl (fun hq => ?_) (fun hq => ?_) <;> (try simp at hq))
    | (with_reducible refine And.intro (fun hq => ?_) (fun hq => ?_))
    | (with_reducible intro hq)
    | fail)
  all_goals (first | omega | simp_all)

theorem l1In_ok (x lo hi : Int) (H : Heap) : ICall pg 17 [.int .i64 x, .int .i64 lo, .int .i64 hi] H (Same H [.bool (inB x lo hi)]) := by
  refine go17 rfl fun C hC => ?_
  repeat' (first
    | refine W_seq ?_
    | refine W_block ?_
    | (refine W_ret ?_; simp [Same, inB])
    | (refine W_skip ?_; simp [Same, inB])
    | (refine W_exit ?_; simp [Same, inB])
    | (refine V_regc hC ?_; simp [Same, inB])
    | (refine V_reg hC ?_; simp [Same, inB])
    | (refine w_split rfl (fun hq => ?_) (fun hq => ?_) <;> (try simp at hq) <;> simp [hq, Same, inB])
    | (refine V_cond rfl (fun hq => ?_) (fun hq => ?_) <;> (try simp at hq))
    | (with_reducible refine And.intro (fun hq => ?_) (fun hq => ?_))
    | (with_reducible intro hq)
    | fail)
  all_goals (first | omega | simp_all)

theorem numOk_ok (x : Int) (H : Heap) : ICall pg 48 [.int .i64 x] H (Same H [.bool (numB x)]) := by
  refine go48 rfl fun C hC => ?_
  repeat' (first
    | refine W_seq ?_
    | refine W_block ?_
    | (refine W_ret ?_; simp [Same, inB, numB])
    | (refine W_skip ?_; simp [Same, inB, numB])
    | (refine W_exit ?_; simp [Same, inB, numB])
    | (refine V_regc hC ?_; simp [Same, inB, numB])
    | (refine V_reg hC ?_; simp [Same, inB, numB])
    | (refine (in_ok _ _ _ _).mono ?_; rintro _ _ ⟨rfl, rfl⟩; simp [Same, inB, numB])
    | (refine w_split rfl (fun hq => ?_) (fun hq => ?_) <;> (try simp at hq) <;> simp [hq, Same, inB, numB])
    | (refine V_cond rfl (fun hq => ?_) (fun hq => ?_) <;> (try simp at hq))
    | (with_reducible refine And.intro (fun hq => ?_) (fun hq => ?_))
    | (with_reducible intro hq)
    | fail)

theorem l1Num_ok (x : Int) (H : Heap) : ICall pg 35 [.int .i64 x] H (Same H [.bool (numB x)]) := by
  refine go35 rfl fun C hC => ?_
  repeat' (first
    | refine W_seq ?_
    | refine W_block ?_
    | (refine W_ret ?_; simp [Same, inB, numB])
    | (refine W_skip ?_; simp [Same, inB, numB])
    | (refine W_exit ?_; simp [Same, inB, numB])
    | (refine V_regc hC ?_; simp [Same, inB, numB])
    | (refine V_reg hC ?_; simp [Same, inB, numB])
    | (refine (l1In_ok _ _ _ _).mono ?_; rintro _ _ ⟨rfl, rfl⟩; simp [Same, inB, numB])
    | (refine w_split rfl (fun hq => ?_) (fun hq => ?_) <;> (try simp at hq) <;> simp [hq, Same, inB, numB])
    | (refine V_cond rfl (fun hq => ?_) (fun hq => ?_) <;> (try simp at hq))
    | (with_reducible refine And.intro (fun hq => ?_) (fun hq => ?_))
    | (with_reducible intro hq)
    | fail)

theorem big_ok {v : Value} {xs : List UInt8} {H : Heap} (h : Rd H v xs) : ICall pg 4 [v] H (Same H [.bool (decide (1048576 < xs.length))]) := by
  refine go4 rfl fun C hC => ?_
  repeat' (first
    | refine W_seq ?_
    | refine W_block ?_
    | (refine W_ret ?_; simp [Same, h.lenV])
    | (refine W_skip ?_; simp [Same, h.lenV])
    | (refine W_exit ?_; simp [Same, h.lenV])
    | (refine V_regc hC ?_; simp [Same, h.lenV])
    | (refine V_reg hC ?_; simp [Same, h.lenV])
    | (refine w_split rfl (fun hq => ?_) (fun hq => ?_) <;> (try simp at hq) <;> simp [hq, Same, h.lenV])
    | (refine V_cond rfl (fun hq => ?_) (fun hq => ?_) <;> (try simp at hq))
    | (with_reducible refine And.intro (fun hq => ?_) (fun hq => ?_))
    | (with_reducible intro hq)
    | fail)
  omega

/-! ### the reference's InsOk, ProgOk -/

set_option maxHeartbeats 4000000 in
theorem sInsOk_ok (x : Ins) (pl pr : Int) (hp : -9223372036854775808 ≤ pr - 1 ∧ pr - 1 < 9223372036854775808) (H : Heap) : ICall pg 52 [.agg (fl x).toArray, .int .i64 pl, .int .i64 pr] H (Same H [.bool (insOk x pl pr)]) := by
  refine go52 rfl fun C hC => ?_
  obtain ⟨op, r, a, b, n⟩ := x
  repeat' (first
    | refine W_seq ?_
    | refine W_block ?_
    | (refine W_ret ?_; simp [Same, fl, wrap64 hp])
    | (refine W_skip ?_; simp [Same, fl, wrap64 hp])
    | (refine W_exit ?_; simp [Same, fl, wrap64 hp])
    | (refine V_regc hC ?_; simp [Same, fl, wrap64 hp])
    | (refine V_reg hC ?_; simp [Same, fl, wrap64 hp])
    | (refine (l1In_ok _ _ _ _).mono ?_; rintro _ _ ⟨rfl, rfl⟩; simp [Same, fl, wrap64 hp])
    | (refine (l1Num_ok _ _).mono ?_; rintro _ _ ⟨rfl, rfl⟩; simp [Same, fl, wrap64 hp])
    | (refine w_split rfl (fun hq => ?_) (fun hq => ?_) <;> (try simp at hq) <;> simp [hq, Same, fl, wrap64 hp])
    | (refine V_cond rfl (fun hq => ?_) (fun hq => ?_) <;> (try simp at hq))
    | (with_reducible refine And.intro (fun hq => ?_) (fun hq => ?_))
    | (with_reducible intro hq)
    | fail)
  all_goals (first | omega | (simp_all [insOk]; done) | (simp_all [insOk]; omega) | (simp_all [insOk, Same]; rw [Bool.eq_iff_iff]; simp [and_assoc]; done))

end Go.Proofs.Ytpnbojehfngigaa.IM

/- What the program's InsOk and its like compute. -/
namespace Go.Proofs.Ytpnbojehfngigaa.IM
open Go Go.Proofs Enc Flat
set_option linter.unusedVariables false
set_option linter.unusedSimpArgs false

def formS (op : Int) : ByteArray :=
  if op = 1 then ⟨#[82, 78]⟩ else if op = 2 ∨ op = 3 ∨ op = 4 ∨ op = 5 then ⟨#[82, 65, 66]⟩ else if op = 6 then ⟨#[80, 65]⟩ else if op = 7 then ⟨#[82, 84]⟩
  else if op = 8 then ⟨#[65]⟩ else if op = 9 then ⟨#[76]⟩ else if op = 10 then ⟨#[65, 76]⟩ else ⟨#[]⟩

theorem form_ok (op : Int) (H : Heap) : ICall pg 55 [.int .i64 op] H (Same H [.string (formS op), .bool (decide (1 ≤ op ∧ op ≤ 11))]) := by
  refine go55 rfl fun C hC => ?_
  repeat' (first
    | refine W_seq ?_
    | refine W_block ?_
    | (refine W_ret ?_; simp [Same, formS])
    | (refine W_skip ?_; simp [Same, formS])
    | (refine W_exit ?_; simp [Same, formS])
    | (refine V_regc hC ?_; simp [Same, formS])
    | (refine V_reg hC ?_; simp [Same, formS])
    | (refine w_split rfl (fun hq => ?_) (fun hq => ?_) <;> (try simp at hq) <;> simp [hq, Same, formS])
    | (refine V_cond rfl (fun hq => ?_) (fun hq => ?_) <;> (try simp at hq))
    | (with_reducible refine And.intro (fun hq => ?_) (fun hq => ?_))
    | (with_reducible intro hq)
    | fail)
  all_goals (first | omega | (simp_all [formS]; done) | (simp_all [formS]; omega) | (simp_all [formS]; rw [Bool.eq_iff_iff]; simp [and_assoc]; done) | (simp_all [formS]; rw [Bool.eq_iff_iff]; simp; omega) | (rw [Bool.eq_iff_iff]; simp_all [formS]; done) | (rw [Bool.eq_iff_iff]; simp_all [formS]; omega))

def byteI (b : UInt8) : Int := b.toNat

theorem index_ok {v : Value} {xs : List UInt8} {H : Heap} (h : Rd H v xs) (hl : xs.length < 2 ^ 40) (k : Int) : ICall pg 67 [v, .int .u8 k] H fun r H' => H' = H ∧ ∃ i : Int, r = [.int .i64 i] ∧ (0 ≤ i ↔ k ∈ xs.map byteI) := by
  refine go67 rfl fun C hC => ?_
  repeat' (first
    | refine W_seq ?_
    | refine W_block ?_
    | (refine W_ret ?_; simp [h.lenV])
    | (refine W_skip ?_; simp [h.lenV])
    | (refine W_exit ?_; simp [h.lenV])
    | (refine V_regc hC ?_; simp [h.lenV])
    | (refine V_reg hC ?_; simp [h.lenV])
    | (refine w_split rfl (fun hq => ?_) (fun hq => ?_) <;> (try simp at hq) <;> simp [hq, h.lenV])
    | (refine V_cond rfl (fun hq => ?_) (fun hq => ?_) <;> (try simp at hq))
    | (with_reducible refine And.intro (fun hq => ?_) (fun hq => ?_))
    | (with_reducible intro hq)
    | fail)
  refine W_count xs.length (fun i s => i ≤ xs.length ∧ ∃ a b : Option Value, s = ⟨[some v, some (.int .u8 k), some (.int .i64 0), a, some (.int .i64 xs.length), some (.int .i64 i), b], [], H⟩ ∧ ∀ y ∈ xs.take i, byteI y ≠ k) ⟨by omega, none, none, by simp, by simp⟩ ?_
  rintro i s ⟨hi, a, b, rfl, hno⟩
  by_cases hlt : i < xs.length
  · have e1 := h.elemP hlt .i64
    have e2 := h.all hlt
    simp [sz, fz, fl] at e1 e2
    repeat' (first
      | refine W_seq ?_
      | refine W_block ?_
      | (refine W_ret ?_; simp [e1, e2, hlt, byteI])
      | (refine W_skip ?_; simp [e1, e2, hlt, byteI])
      | (refine W_exit ?_; simp [e1, e2, hlt, byteI])
      | (refine V_regc hC ?_; simp [e1, e2, hlt, byteI])
      | (refine V_reg hC ?_; simp [e1, e2, hlt, byteI])
      | (refine w_split rfl (fun hq => ?_) (fun hq => ?_) <;> (try simp at hq) <;> simp [hq, e1, e2, hlt, byteI])
      | (refine V_cond rfl (fun hq => ?_) (fun hq => ?_) <;> (try simp at hq))
      | (with_reducible refine And.intro (fun hq => ?_) (fun hq => ?_))
      | (with_reducible intro hq)
      | fail)
    · exact ⟨xs[i], List.getElem_mem _, by simp_all⟩
    · refine ⟨by omega, by rw [wrap64 (by omega)], ?_⟩
      intro y hy
      rw [List.take_succ_eq_append_getElem hlt, List.mem_append] at hy
      rcases hy with hy | hy
      · exact hno y hy
      · simp at hy; subst hy; simpa [eq_comm] using hq
  · repeat' (first
      | refine W_seq ?_
      | refine W_block ?_
      | (refine W_ret ?_; simp [hlt])
      | (refine W_skip ?_; simp [hlt])
      | (refine W_exit ?_; simp [hlt])
      | (refine V_regc hC ?_; simp [hlt])
      | (refine V_reg hC ?_; simp [hlt])
      | (refine w_split rfl (fun hq => ?_) (fun hq => ?_) <;> (try simp at hq) <;> simp [hq, hlt])
      | (refine V_cond rfl (fun hq => ?_) (fun hq => ?_) <;> (try simp at hq))
      | (with_reducible refine And.intro (fun hq => ?_) (fun hq => ?_))
      | (with_reducible intro hq)
      | fail)
    have : i = xs.length := by omega
    subst this
    simp at hno
    exact hno _ (by assumption)

theorem contains_ok {v : Value} {xs : List UInt8} {H : Heap} (h : Rd H v xs) (hl : xs.length < 2 ^ 40) (k : Int) : ICall pg 63 [v, .int .u8 k] H (Same H [.bool (decide (k ∈ xs.map byteI))]) := by
  refine go63 rfl fun C hC => ?_
  repeat' (first
    | refine W_seq ?_
    | refine W_block ?_
    | (refine W_ret ?_; simp [Same])
    | (refine W_skip ?_; simp [Same])
    | (refine W_exit ?_; simp [Same])
    | (refine V_regc hC ?_; simp [Same])
    | (refine V_reg hC ?_; simp [Same])
    | (refine (index_ok h hl k).mono ?_; rintro _ _ ⟨rfl, i, rfl, hi⟩; simp [Same])
    | (refine w_split rfl (fun hq => ?_) (fun hq => ?_) <;> (try simp at hq) <;> simp [hq, Same])
    | (refine V_cond rfl (fun hq => ?_) (fun hq => ?_) <;> (try simp at hq))
    | (with_reducible refine And.intro (fun hq => ?_) (fun hq => ?_))
    | (with_reducible intro hq)
    | fail)
  all_goals (first | omega | (simp_all []; done) | (simp_all []; omega) | (simp_all []; rw [Bool.eq_iff_iff]; simp [and_assoc]; done) | (simp_all []; rw [Bool.eq_iff_iff]; simp; omega) | (rw [Bool.eq_iff_iff]; simp_all []; done) | (rw [Bool.eq_iff_iff]; simp_all []; omega))

def hasB (op k : Int) : Bool := decide (k ∈ (formS op).data.toList.map byteI)

theorem has_ok (op k : Int) (H : Heap) : ICall pg 57 [.int .i64 op, .int .u8 k] H (Ret H [.bool (hasB op k)]) := by
  refine go57 rfl fun C hC => ?_
  repeat' (first
    | refine W_seq ?_
    | refine W_block ?_
    | (refine W_ret ?_; simp [Ret])
    | (refine W_skip ?_; simp [Ret])
    | (refine W_exit ?_; simp [Ret])
    | (refine V_regc hC ?_; simp [Ret])
    | (refine V_reg hC ?_; simp [Ret])
    | (refine (form_ok op _).mono ?_; rintro _ _ ⟨rfl, rfl⟩; simp [Ret])
    | (refine (contains_ok (.str _) ?_ k).mono ?_; rotate_left; rintro _ _ ⟨rfl, rfl⟩; simp [Ret])
    | (refine w_split rfl (fun hq => ?_) (fun hq => ?_) <;> (try simp at hq) <;> simp [hq, Ret])
    | (refine V_cond rfl (fun hq => ?_) (fun hq => ?_) <;> (try simp at hq))
    | (with_reducible refine And.intro (fun hq => ?_) (fun hq => ?_))
    | (with_reducible intro hq)
    | fail)
  · simp [hasB]
  · unfold formS
    repeat' split
    all_goals simp

def regOkB (n : Int) (had : Bool) : Bool := n == 0 || (had && inB n 0 3)

theorem regOk_ok (n : Int) (had : Bool) (H : Heap) : ICall pg 56 [.int .i64 n, .bool had] H (Same H [.bool (regOkB n had)]) := by
  refine go56 rfl fun C hC => ?_
  repeat' (first
    | refine W_seq ?_
    | refine W_block ?_
    | (refine W_ret ?_; simp [Same, regOkB])
    | (refine W_skip ?_; simp [Same, regOkB])
    | (refine W_exit ?_; simp [Same, regOkB])
    | (refine V_regc hC ?_; simp [Same, regOkB])
    | (refine V_reg hC ?_; simp [Same, regOkB])
    | (refine (in_ok _ _ _ _).mono ?_; rintro _ _ ⟨rfl, rfl⟩; simp [Same, regOkB])
    | (refine w_split rfl (fun hq => ?_) (fun hq => ?_) <;> (try simp at hq) <;> simp [hq, Same, regOkB])
    | (refine V_cond rfl (fun hq => ?_) (fun hq => ?_) <;> (try simp at hq))
    | (with_reducible refine And.intro (fun hq => ?_) (fun hq => ?_))
    | (with_reducible intro hq)
    | fail)
  all_goals (first | omega | (simp_all [regOkB]; done) | (simp_all [regOkB]; omega) | (simp_all [regOkB]; rw [Bool.eq_iff_iff]; simp [and_assoc]; done) | (simp_all [regOkB]; rw [Bool.eq_iff_iff]; simp; omega) | (rw [Bool.eq_iff_iff]; simp_all [regOkB]; done) | (rw [Bool.eq_iff_iff]; simp_all [regOkB]; omega))

theorem hasN (op : Int) : hasB op 78 = decide (op = 1) := by
  unfold hasB formS; repeat' split
  all_goals (first | (simp_all [byteI]; done) | (simp_all [byteI]; omega))
theorem hasP (op : Int) : hasB op 80 = decide (op = 6) := by
  unfold hasB formS; repeat' split
  all_goals (first | (simp_all [byteI]; done) | (simp_all [byteI]; omega))
theorem hasT (op : Int) : hasB op 84 = decide (op = 7) := by
  unfold hasB formS; repeat' split
  all_goals (first | (simp_all [byteI]; done) | (simp_all [byteI]; omega))
theorem hasL (op : Int) : hasB op 76 = decide (op = 9 ∨ op = 10) := by
  unfold hasB formS; repeat' split
  all_goals (first | (simp_all [byteI]; done) | (simp_all [byteI]; omega))
theorem hasR (op : Int) : hasB op 82 = decide (op = 1 ∨ op = 2 ∨ op = 3 ∨ op = 4 ∨ op = 5 ∨ op = 7) := by
  unfold hasB formS; repeat' split
  all_goals (first | (simp_all [byteI]; done) | (simp_all [byteI]; omega))
theorem hasA (op : Int) : hasB op 65 = decide (op = 2 ∨ op = 3 ∨ op = 4 ∨ op = 5 ∨ op = 6 ∨ op = 8 ∨ op = 10) := by
  unfold hasB formS; repeat' split
  all_goals (first | (simp_all [byteI]; done) | (simp_all [byteI]; omega))
theorem hasBB (op : Int) : hasB op 66 = decide (op = 2 ∨ op = 3 ∨ op = 4 ∨ op = 5) := by
  unfold hasB formS; repeat' split
  all_goals (first | (simp_all [byteI]; done) | (simp_all [byteI]; omega))

/-- InsOk as the program reckons it. -/
def insOkI (x : Ins) (pl pr : Int) : Bool :=
  decide (1 ≤ x.op ∧ x.op ≤ 11) && inB pr 1 4 && regOkB x.r (hasB x.op 82) && regOkB x.a (hasB x.op 65) && regOkB x.b (hasB x.op 66) &&
  (if hasB x.op 78 = true then numB x.n else if hasB x.op 80 = true then inB x.n 0 (pr - 1) else if hasB x.op 84 = true then (x.n == 9 || inB x.n 0 (pr - 1)) else if hasB x.op 76 = true then decide (0 ≤ x.n ∧ x.n < pl) else x.n == 0)

theorem insOkI_eq (x : Ins) (pl pr : Int) : insOkI x pl pr = insOk x pl pr := by
  obtain ⟨op, r, a, b, n⟩ := x
  rw [Bool.eq_iff_iff]
  unfold insOkI insOk
  simp only [hasN, hasP, hasT, hasL, hasR, hasA, hasBB]
  by_cases o : 1 ≤ op ∧ op ≤ 11
  · obtain ⟨o1, o2⟩ := o
    have : op = 1 ∨ op = 2 ∨ op = 3 ∨ op = 4 ∨ op = 5 ∨ op = 6 ∨ op = 7 ∨ op = 8 ∨ op = 9 ∨ op = 10 ∨ op = 11 := by omega
    rcases this with rfl | rfl | rfl | rfl | rfl | rfl | rfl | rfl | rfl | rfl | rfl
    all_goals (simp [regOkB, inB, numB]; try omega)
  · have h1 : op ≠ 1 := by omega
    have h2 : op ≠ 2 := by omega
    have h3 : op ≠ 3 := by omega
    have h4 : op ≠ 4 := by omega
    have h5 : op ≠ 5 := by omega
    have h6 : op ≠ 6 := by omega
    have h7 : op ≠ 7 := by omega
    have h8 : op ≠ 8 := by omega
    have h9 : op ≠ 9 := by omega
    have h10 : op ≠ 10 := by omega
    have h11 : op ≠ 11 := by omega
    simp [h1, h2, h3, h4, h5, h6, h7, h8, h9, h10, h11, o]

set_option maxHeartbeats 4000000 in
theorem insOk_ok (x : Ins) (pl pr : Int) (hp : -9223372036854775808 ≤ pr - 1 ∧ pr - 1 < 9223372036854775808) (H : Heap) : ICall pg 44 [.agg (fl x).toArray, .int .i64 pl, .int .i64 pr] H (Ret H [.bool (insOk x pl pr)]) := by
  refine go44 rfl fun C hC => ?_
  rw [← insOkI_eq]
  obtain ⟨op, r, a, b, n⟩ := x
  repeat' (first
    | refine W_seq ?_
    | refine W_block ?_
    | (refine W_ret ?_; simp [Ret, fl, wrap64 hp])
    | (refine W_skip ?_; simp [Ret, fl, wrap64 hp])
    | (refine W_exit ?_; simp [Ret, fl, wrap64 hp])
    | (refine V_regc hC ?_; simp [Ret, fl, wrap64 hp])
    | (refine V_reg hC ?_; simp [Ret, fl, wrap64 hp])
    | (refine (form_ok _ _).mono ?_; rintro _ _ ⟨rfl, rfl⟩; simp [Ret, fl, wrap64 hp])
    | (refine (in_ok _ _ _ _).mono ?_; rintro _ _ ⟨rfl, rfl⟩; simp [Ret, fl, wrap64 hp])
    | (refine (regOk_ok _ _ _).mono ?_; rintro _ _ ⟨rfl, rfl⟩; simp [Ret, fl, wrap64 hp])
    | (refine (numOk_ok _ _).mono ?_; rintro _ _ ⟨rfl, rfl⟩; simp [Ret, fl, wrap64 hp])
    | (refine (has_ok _ _ _).mono ?_; rintro _ H1 ⟨rfl, hg⟩; simp [Ret, fl, wrap64 hp])
    | (refine w_split rfl (fun hq => ?_) (fun hq => ?_) <;> (try simp at hq) <;> simp [hq, Ret, fl, wrap64 hp])
    | (refine V_cond rfl (fun hq => ?_) (fun hq => ?_) <;> (try simp at hq))
    | (with_reducible refine And.intro (fun hq => ?_) (fun hq => ?_))
    | (with_reducible intro hq)
    | fail)
  all_goals (first | (refine ⟨?_, by (repeat' (first | assumption | exact Gent.refl _ | (refine Gent.trans (by assumption) ?_)))⟩) | skip)
  all_goals (first | omega | (simp_all [insOkI]; done) | (simp_all [insOkI]; omega) | (simp_all [insOkI]; rw [Bool.eq_iff_iff]; simp [and_assoc]; done) | (simp_all [insOkI]; rw [Bool.eq_iff_iff]; simp; omega) | (rw [Bool.eq_iff_iff]; simp_all [insOkI]; done) | (rw [Bool.eq_iff_iff]; simp_all [insOkI]; omega))

end Go.Proofs.Ytpnbojehfngigaa.IM

/- What ProgOk computes. -/
namespace Go.Proofs.Ytpnbojehfngigaa.IM
open Go Go.Proofs Enc Flat
set_option linter.unusedVariables false
set_option linter.unusedSimpArgs false

theorem indexFunc_ok {v : Value} {xs : List Ins} {H : Heap} (h : Rd H v xs) (hl : xs.length < 2 ^ 40) (f : Nat) (cap : List Value) (p : Ins → Bool)
    (hf : ∀ x ∈ xs, ∀ H', Gent H H' → ICall pg f (.agg (fl x).toArray :: cap) H' (Ret H' [.bool (p x)])) :
    ICall pg 54 [v, .func (.func f) #[] cap.toArray] H fun r H' => Gent H H' ∧ ∃ i : Int, r = [.int .i64 i] ∧ (0 ≤ i ↔ ∃ x ∈ xs, p x = true) := by
  refine go54 rfl fun C hC => ?_
  repeat' (first
    | refine W_seq ?_
    | refine W_block ?_
    | (refine W_ret ?_; simp [h.lenV])
    | (refine W_skip ?_; simp [h.lenV])
    | (refine W_exit ?_; simp [h.lenV])
    | (refine V_regc hC ?_; simp [h.lenV])
    | (refine V_reg hC ?_; simp [h.lenV])
    | (refine w_split rfl (fun hq => ?_) (fun hq => ?_) <;> (try simp at hq) <;> simp [hq, h.lenV])
    | (refine V_cond rfl (fun hq => ?_) (fun hq => ?_) <;> (try simp at hq))
    | (with_reducible refine And.intro (fun hq => ?_) (fun hq => ?_))
    | (with_reducible intro hq)
    | fail)
  refine W_count xs.length (fun i s => i ≤ xs.length ∧ ∃ (a b : Option Value) (H1 : Heap), s = ⟨[some v, some (.func (.func f) #[] cap.toArray), some (.int .i64 0), a, some (.int .i64 xs.length), some (.int .i64 i), b], [], H1⟩ ∧ Gent H H1 ∧ ∀ y ∈ xs.take i, p y = false) ⟨by omega, none, none, H, by simp, .refl _, by simp⟩ ?_
  rintro i s ⟨hi, a, b, H1, rfl, hg, hno⟩
  by_cases hlt : i < xs.length
  · have e1 := (h.gent hg).elemP hlt .i64
    have e2 := (h.gent hg).all hlt
    simp [sz, fz] at e1 e2
    repeat' (first
      | refine W_seq ?_
      | refine W_block ?_
      | (refine W_ret ?_; simp [e1, e2, hlt])
      | (refine W_skip ?_; simp [e1, e2, hlt])
      | (refine W_exit ?_; simp [e1, e2, hlt])
      | (refine V_regc hC ?_; simp [e1, e2, hlt])
      | (refine V_reg hC ?_; simp [e1, e2, hlt])
      | (refine (hf xs[i] (List.getElem_mem _) _ (by (repeat' (first | assumption | exact Gent.refl _ | (refine Gent.trans (by assumption) ?_))))).mono ?_; rintro _ H2 ⟨rfl, hg2⟩; simp [e1, e2, hlt])
      | (refine w_split rfl (fun hq => ?_) (fun hq => ?_) <;> (try simp at hq) <;> simp [hq, e1, e2, hlt])
      | (refine V_cond rfl (fun hq => ?_) (fun hq => ?_) <;> (try simp at hq))
      | (with_reducible refine And.intro (fun hq => ?_) (fun hq => ?_))
      | (with_reducible intro hq)
      | fail)
    · exact ⟨by (repeat' (first | assumption | exact Gent.refl _ | (refine Gent.trans (by assumption) ?_))), xs[i], List.getElem_mem _, hq⟩
    · refine ⟨by omega, _, _, _, ⟨⟨rfl, wrap64 (by omega), rfl⟩, rfl⟩, by (repeat' (first | assumption | exact Gent.refl _ | (refine Gent.trans (by assumption) ?_))), ?_⟩
      intro y hy
      rw [List.take_succ_eq_append_getElem hlt, List.mem_append] at hy
      rcases hy with hy | hy
      · exact hno y hy
      · simp at hy; subst hy; exact hq
  · repeat' (first
      | refine W_seq ?_
      | refine W_block ?_
      | (refine W_ret ?_; simp [hlt])
      | (refine W_skip ?_; simp [hlt])
      | (refine W_exit ?_; simp [hlt])
      | (refine V_regc hC ?_; simp [hlt])
      | (refine V_reg hC ?_; simp [hlt])
      | (refine w_split rfl (fun hq => ?_) (fun hq => ?_) <;> (try simp at hq) <;> simp [hq, hlt])
      | (refine V_cond rfl (fun hq => ?_) (fun hq => ?_) <;> (try simp at hq))
      | (with_reducible refine And.intro (fun hq => ?_) (fun hq => ?_))
      | (with_reducible intro hq)
      | fail)
    have : i = xs.length := by omega
    subst this
    refine ⟨by (repeat' (first | assumption | exact Gent.refl _ | (refine Gent.trans (by assumption) ?_))), ?_⟩
    simpa using hno

theorem containsFunc_ok {v : Value} {xs : List Ins} {H : Heap} (h : Rd H v xs) (hl : xs.length < 2 ^ 40) (f : Nat) (cap : List Value) (p : Ins → Bool)
    (hf : ∀ x ∈ xs, ∀ H', Gent H H' → ICall pg f (.agg (fl x).toArray :: cap) H' (Ret H' [.bool (p x)])) :
    ICall pg 42 [v, .func (.func f) #[] cap.toArray] H (Ret H [.bool (xs.any p)]) := by
  refine go42 rfl fun C hC => ?_
  repeat' (first
    | refine W_seq ?_
    | refine W_block ?_
    | (refine W_ret ?_; simp [Ret])
    | (refine W_skip ?_; simp [Ret])
    | (refine W_exit ?_; simp [Ret])
    | (refine V_regc hC ?_; simp [Ret])
    | (refine V_reg hC ?_; simp [Ret])
    | (refine (indexFunc_ok h hl f cap p hf).mono ?_; rintro _ _ ⟨hg, i, rfl, hi⟩; simp [Ret])
    | (refine w_split rfl (fun hq => ?_) (fun hq => ?_) <;> (try simp at hq) <;> simp [hq, Ret])
    | (refine V_cond rfl (fun hq => ?_) (fun hq => ?_) <;> (try simp at hq))
    | (with_reducible refine And.intro (fun hq => ?_) (fun hq => ?_))
    | (with_reducible intro hq)
    | fail)
  refine ⟨?_, hg⟩
  rw [Bool.eq_iff_iff]
  simpa using hi

theorem progOk1_ok (x : Ins) {v vp q : Value} {xs : List Ins} {H : Heap} {n : Int} (h : Rd H v xs) (hn : -9223372036854775808 ≤ n - 1 ∧ n - 1 < 9223372036854775808) (h1 : H.rd vp 1 = some [v]) (h2 : H.rd q 1 = some [.int .i64 n]) :
    ICall pg 43 [.agg (fl x).toArray, vp, q] H (Ret H [.bool (!insOk x xs.length n)]) := by
  refine go43 rfl fun C hC => ?_
  repeat' (first
    | refine W_seq ?_
    | refine W_block ?_
    | (refine W_ret ?_; simp [Ret, h1, h2, h.lenV, fl])
    | (refine W_skip ?_; simp [Ret, h1, h2, h.lenV, fl])
    | (refine W_exit ?_; simp [Ret, h1, h2, h.lenV, fl])
    | (refine V_regc hC ?_; simp [Ret, h1, h2, h.lenV, fl])
    | (refine V_reg hC ?_; simp [Ret, h1, h2, h.lenV, fl])
    | (refine (insOk_ok x _ _ hn _).mono ?_; rintro _ _ ⟨rfl, hg⟩; simp [Ret, h1, h2, h.lenV, fl])
    | (refine w_split rfl (fun hq => ?_) (fun hq => ?_) <;> (try simp at hq) <;> simp [hq, Ret, h1, h2, h.lenV, fl])
    | (refine V_cond rfl (fun hq => ?_) (fun hq => ?_) <;> (try simp at hq))
    | (with_reducible refine And.intro (fun hq => ?_) (fun hq => ?_))
    | (with_reducible intro hq)
    | fail)
  exact hg

theorem progOkI_eq (xs : List Ins) (n : Int) : (inB xs.length 1 30 && !xs.any fun x => !insOk x xs.length n) = progOk xs n := by
  rw [Bool.eq_iff_iff]
  unfold progOk
  constructor
  · intro h
    simp only [Bool.and_eq_true, Bool.not_eq_true', List.any_eq_false, List.all_eq_true] at h ⊢
    obtain ⟨h1, h2⟩ := h
    refine ⟨⟨fun x hx => by simpa using h2 x hx, h1⟩, ?_⟩
    simp only [inB, decide_eq_true_eq] at h1
    match xs, h1, h2 with
    | x :: xs, _, h2 =>
      have := h2 x (by simp)
      simp only [Bool.not_eq_true', Bool.not_eq_false] at this
      unfold insOk at this
      simp only [Bool.and_eq_true] at this
      exact this.1.2
  · intro h
    simp only [Bool.and_eq_true, Bool.not_eq_true', List.any_eq_false, List.all_eq_true] at h ⊢
    exact ⟨h.1.2, fun x hx => by simpa using h.1.1 x hx⟩

theorem progOk_ok {v : Value} {xs : List Ins} {H : Heap} (n : Int) (h : Rd H v xs) (hl : xs.length < 2 ^ 40) (hn : -9223372036854775808 ≤ n - 1 ∧ n - 1 < 9223372036854775808) :
    ICall pg 23 [v, .int .i64 n] H (Ret H [.bool (progOk xs n)]) := by
  refine go23 rfl fun C hC => ?_
  rw [← progOkI_eq]
  have e1 : ((H.add ⟨[v], 1, true⟩).add ⟨[.int .i64 n], 1, true⟩).rd (.pointer (some ⟨H.length, 0, none⟩)) 1 = some [v] := rd_gent (rd_new H [v] 1 true) (gent_add' _ _)
  have e2 : ((H.add ⟨[v], 1, true⟩).add ⟨[.int .i64 n], 1, true⟩).rd (.pointer (some ⟨H.length + 1, 0, none⟩)) 1 = some [.int .i64 n] := by
    have := rd_new (H.add ⟨[v], 1, true⟩) [.int .i64 n] 1 true
    simpa using this
  have g : Gent H ((H.add ⟨[v], 1, true⟩).add ⟨[.int .i64 n], 1, true⟩) := ((Gent.refl _).add _).add _
  have h' := h.gent g
  repeat' (first
    | refine W_seq ?_
    | refine W_block ?_
    | (refine W_ret ?_; simp [Ret, h.lenV, h.cl, e1, e2, isPtr])
    | (refine W_skip ?_; simp [Ret, h.lenV, h.cl, e1, e2, isPtr])
    | (refine W_exit ?_; simp [Ret, h.lenV, h.cl, e1, e2, isPtr])
    | (refine V_regc hC ?_; simp [Ret, h.lenV, h.cl, e1, e2, isPtr])
    | (refine V_reg hC ?_; simp [Ret, h.lenV, h.cl, e1, e2, isPtr])
    | (refine (in_ok _ _ _ _).mono ?_; rintro _ _ ⟨rfl, rfl⟩; simp [Ret, h.lenV, h.cl, e1, e2, isPtr])
    | (refine (containsFunc_ok h' hl 43 [.pointer (some ⟨H.length, 0, none⟩), .pointer (some ⟨H.length + 1, 0, none⟩)] (fun x => !insOk x xs.length n) fun x _ H2 hg => progOk1_ok x (h'.gent hg) hn (rd_gent e1 hg) (rd_gent e2 hg)).mono ?_; rintro _ _ ⟨rfl, hg⟩; simp [Ret, h.lenV, h.cl, e1, e2, isPtr])
    | (refine w_split rfl (fun hq => ?_) (fun hq => ?_) <;> (try simp at hq) <;> simp [hq, Ret, h.lenV, h.cl, e1, e2, isPtr])
    | (refine V_cond rfl (fun hq => ?_) (fun hq => ?_) <;> (try simp at hq))
    | (with_reducible refine And.intro (fun hq => ?_) (fun hq => ?_))
    | (with_reducible intro hq)
    | fail)
  · exact g.trans hg
  · exact g

theorem sProgOk_ok {v : Value} {xs : List Ins} {H : Heap} (n : Int) (h : Rd H v xs) (hl : xs.length < 2 ^ 40) (hn : -9223372036854775808 ≤ n - 1 ∧ n - 1 < 9223372036854775808) :
    ICall pg 40 [v, .int .i64 n] H (Same H [.bool (progOk xs n)]) := by
  refine go40 rfl fun C hC => ?_
  repeat' (first
    | refine W_seq ?_
    | refine W_block ?_
    | (refine W_ret ?_; simp [h.lenV])
    | (refine W_skip ?_; simp [h.lenV])
    | (refine W_exit ?_; simp [h.lenV])
    | (refine V_regc hC ?_; simp [h.lenV])
    | (refine V_reg hC ?_; simp [h.lenV])
    | (refine w_split rfl (fun hq => ?_) (fun hq => ?_) <;> (try simp at hq) <;> simp [hq, h.lenV])
    | (refine V_cond rfl (fun hq => ?_) (fun hq => ?_) <;> (try simp at hq))
    | (with_reducible refine And.intro (fun hq => ?_) (fun hq => ?_))
    | (with_reducible intro hq)
    | fail)
  refine W_count xs.length (fun i s => i ≤ xs.length ∧ s = ⟨[some v, some (.int .i64 n), some (.bool false), some (.int .i64 i)], [], H⟩ ∧ ∀ y ∈ xs.take i, insOk y xs.length n = true) ⟨by omega, by simp, by simp⟩ ?_
  rintro i s ⟨hi, rfl, hno⟩
  by_cases hlt : i < xs.length
  · have e1 := h.elemP hlt .i64
    have e2 := h.all hlt
    simp [sz, fz] at e1 e2
    repeat' (first
      | refine W_seq ?_
      | refine W_block ?_
      | (refine W_ret ?_; simp [e1, e2, hlt, h.lenV, Same])
      | (refine W_skip ?_; simp [e1, e2, hlt, h.lenV, Same])
      | (refine W_exit ?_; simp [e1, e2, hlt, h.lenV, Same])
      | (refine V_regc hC ?_; simp [e1, e2, hlt, h.lenV, Same])
      | (refine V_reg hC ?_; simp [e1, e2, hlt, h.lenV, Same])
      | (refine (sInsOk_ok xs[i] _ _ hn _).mono ?_; rintro _ H2 ⟨rfl, rfl⟩; simp [e1, e2, hlt, h.lenV, Same])
      | (refine w_split rfl (fun hq => ?_) (fun hq => ?_) <;> (try simp at hq) <;> simp [hq, e1, e2, hlt, h.lenV, Same])
      | (refine V_cond rfl (fun hq => ?_) (fun hq => ?_) <;> (try simp at hq))
      | (with_reducible refine And.intro (fun hq => ?_) (fun hq => ?_))
      | (with_reducible intro hq)
      | fail)
    · unfold progOk
      have : xs.all (fun x => insOk x xs.length n) = false := by
        rw [List.all_eq_false]
        exact ⟨xs[i], List.getElem_mem _, by simp [hq]⟩
      simp [this]
    · exact ⟨by omega, wrap64 (by omega), all_succ hlt hno hq⟩
  · repeat' (first
      | refine W_seq ?_
      | refine W_block ?_
      | (refine W_ret ?_; simp [hlt, h.lenV, Same])
      | (refine W_skip ?_; simp [hlt, h.lenV, Same])
      | (refine W_exit ?_; simp [hlt, h.lenV, Same])
      | (refine V_regc hC ?_; simp [hlt, h.lenV, Same])
      | (refine V_reg hC ?_; simp [hlt, h.lenV, Same])
      | (refine (l1In_ok _ _ _ _).mono ?_; rintro _ _ ⟨rfl, rfl⟩; simp [hlt, h.lenV, Same])
      | (refine w_split rfl (fun hq => ?_) (fun hq => ?_) <;> (try simp at hq) <;> simp [hq, hlt, h.lenV, Same])
      | (refine V_cond rfl (fun hq => ?_) (fun hq => ?_) <;> (try simp at hq))
      | (with_reducible refine And.intro (fun hq => ?_) (fun hq => ?_))
      | (with_reducible intro hq)
      | fail)
    · unfold progOk
      have : xs.all (fun x => insOk x xs.length n) = true := List.all_eq_true.2 (all_end hlt hno)
      simp [this, hq]
    · unfold progOk; simp [hq]

end Go.Proofs.Ytpnbojehfngigaa.IM

/- What the functions on one process compute. -/
namespace Go.Proofs.Ytpnbojehfngigaa.IM
open Go Go.Proofs Enc Flat
set_option linter.unusedVariables false
set_option linter.unusedSimpArgs false

/-- A state as cells. -/
def stV (s : State) (r o : Value) : Value := .agg [.int .i64 s.pc, r, o, .int .i64 s.code].toArray

theorem Prg.at {l : List Ins} (hp : Prg l) {s : State} (hf : Fit l s) : insOk (insAt l s.pc) l.length 4 = true := hp.ins _ (insAt_mem hf.pc)

set_option maxHeartbeats 1000000 in
theorem next_ok {l : List Ins} {s : State} {vl r o : Value} {H : Heap} (hl : Rd H vl l) (hr : Rd H r s.regs) (hp : Prg l) (hf : Fit l s) : ICall pg 31 [vl, stV s r o] H (Same H [.agg (fl (nextE l s)).toArray]) := by
  refine go31 rfl fun C hC => ?_
  obtain ⟨_, hA, _⟩ := insOk_regs (hp.at hf)
  have h4 := hf.regs
  have e1 := hl.elemPI hf.pc .i64
  have e2 := hl.atIns hf.pc
  have e3 := hr.elemPI (i := (insAt l s.pc).a) (by omega) .i64
  have e4 := hr.atInt (i := (insAt l s.pc).a) (by omega)
  simp [sz, fz] at e1 e2 e3 e4
  simp only [stV, nextE]
  repeat' (first
    | refine W_seq ?_
    | refine W_block ?_
    | (refine W_ret ?_; simp [Same, fl, e1, e2, e3, e4])
    | (refine W_skip ?_; simp [Same, fl, e1, e2, e3, e4])
    | (refine W_exit ?_; simp [Same, fl, e1, e2, e3, e4])
    | (refine V_regc hC ?_; simp [Same, fl, e1, e2, e3, e4])
    | (refine V_reg hC ?_; simp [Same, fl, e1, e2, e3, e4])
    | (refine w_split rfl (fun hq => ?_) (fun hq => ?_) <;> (try simp at hq) <;> simp [hq, Same, fl, e1, e2, e3, e4])
    | (refine V_cond rfl (fun hq => ?_) (fun hq => ?_) <;> (try simp at hq))
    | (with_reducible refine And.intro (fun hq => ?_) (fun hq => ?_))
    | (with_reducible intro hq)
    | fail)
  all_goals (first | omega | (simp_all []; done) | (simp_all []; omega) | (simp_all []; rw [Bool.eq_iff_iff]; simp [and_assoc]; done) | (simp_all []; rw [Bool.eq_iff_iff]; simp; omega) | (rw [Bool.eq_iff_iff]; simp_all []; done) | (rw [Bool.eq_iff_iff]; simp_all []; omega))

set_option maxHeartbeats 1000000 in
theorem l2Next_ok {l : List Ins} {s : State} {vl r o : Value} {H : Heap} (hl : Rd H vl l) (hr : Rd H r s.regs) (hp : Prg l) (hf : Fit l s) : ICall pg 34 [vl, stV s r o] H (Same H [.agg (fl (nextE l s)).toArray]) := by
  refine go34 rfl fun C hC => ?_
  obtain ⟨_, hA, _⟩ := insOk_regs (hp.at hf)
  have h4 := hf.regs
  have e1 := hl.elemPI hf.pc .i64
  have e2 := hl.atIns hf.pc
  have e3 := hr.elemPI (i := (insAt l s.pc).a) (by omega) .i64
  have e4 := hr.atInt (i := (insAt l s.pc).a) (by omega)
  simp [sz, fz] at e1 e2 e3 e4
  simp only [stV, nextE]
  repeat' (first
    | refine W_seq ?_
    | refine W_block ?_
    | (refine W_ret ?_; simp [Same, fl, e1, e2, e3, e4])
    | (refine W_skip ?_; simp [Same, fl, e1, e2, e3, e4])
    | (refine W_exit ?_; simp [Same, fl, e1, e2, e3, e4])
    | (refine V_regc hC ?_; simp [Same, fl, e1, e2, e3, e4])
    | (refine V_reg hC ?_; simp [Same, fl, e1, e2, e3, e4])
    | (refine w_split rfl (fun hq => ?_) (fun hq => ?_) <;> (try simp at hq) <;> simp [hq, Same, fl, e1, e2, e3, e4])
    | (refine V_cond rfl (fun hq => ?_) (fun hq => ?_) <;> (try simp at hq))
    | (with_reducible refine And.intro (fun hq => ?_) (fun hq => ?_))
    | (with_reducible intro hq)
    | fail)
  all_goals (first | omega | (simp_all []; done) | (simp_all []; omega) | (simp_all []; rw [Bool.eq_iff_iff]; simp [and_assoc]; done) | (simp_all []; rw [Bool.eq_iff_iff]; simp; omega) | (rw [Bool.eq_iff_iff]; simp_all []; done) | (rw [Bool.eq_iff_iff]; simp_all []; omega))

set_option maxHeartbeats 1000000 in
theorem comes_ok (e want : Event) (H : Heap) : ICall pg 30 [.agg (fl e).toArray, .agg (fl want).toArray] H (Same H [.bool (comesB e want)]) := by
  refine go30 rfl fun C hC => ?_
  obtain ⟨k, p, v⟩ := e
  obtain ⟨k', p', v'⟩ := want
  simp only [comesB]
  repeat' (first
    | refine W_seq ?_
    | refine W_block ?_
    | (refine W_ret ?_; simp [Same, fl])
    | (refine W_skip ?_; simp [Same, fl])
    | (refine W_exit ?_; simp [Same, fl])
    | (refine V_regc hC ?_; simp [Same, fl])
    | (refine V_reg hC ?_; simp [Same, fl])
    | (refine (in_ok _ _ _ _).mono ?_; rintro _ _ ⟨rfl, rfl⟩; simp [Same, fl])
    | (refine (numOk_ok _ _).mono ?_; rintro _ _ ⟨rfl, rfl⟩; simp [Same, fl])
    | (refine w_split rfl (fun hq => ?_) (fun hq => ?_) <;> (try simp at hq) <;> simp [hq, Same, fl])
    | (refine V_cond rfl (fun hq => ?_) (fun hq => ?_) <;> (try simp at hq))
    | (with_reducible refine And.intro (fun hq => ?_) (fun hq => ?_))
    | (with_reducible intro hq)
    | fail)
  all_goals (first | omega | (simp_all []; done) | (simp_all []; omega) | (simp_all []; rw [Bool.eq_iff_iff]; simp [and_assoc]; done) | (simp_all []; rw [Bool.eq_iff_iff]; simp; omega) | (rw [Bool.eq_iff_iff]; simp_all []; done) | (rw [Bool.eq_iff_iff]; simp_all []; omega))

set_option maxHeartbeats 1000000 in
theorem reckoned_ok (x : Ins) {r : Value} {regs : List Int} {H : Heap} (hr : Rd H r regs) (ha : 0 ≤ x.a ∧ x.a < regs.length) (hb : 0 ≤ x.b ∧ x.b < regs.length) (hop : 1 ≤ x.op ∧ x.op ≤ 5) : ICall pg 49 [.agg (fl x).toArray, r] H (Same H [.int .i64 (reckoned x regs)]) := by
  refine go49 rfl fun C hC => ?_
  have e1 := hr.elemPI ha .i64
  have e2 := hr.atInt ha
  have e3 := hr.elemPI hb .i64
  have e4 := hr.atInt hb
  simp [sz, fz] at e1 e2 e3 e4
  simp only [reckoned]
  repeat' (first
    | refine W_seq ?_
    | refine W_block ?_
    | (refine W_ret ?_; simp [Same, fl, e1, e2, e3, e4])
    | (refine W_skip ?_; simp [Same, fl, e1, e2, e3, e4])
    | (refine W_exit ?_; simp [Same, fl, e1, e2, e3, e4])
    | (refine V_regc hC ?_; simp [Same, fl, e1, e2, e3, e4])
    | (refine V_reg hC ?_; simp [Same, fl, e1, e2, e3, e4])
    | (refine w_split rfl (fun hq => ?_) (fun hq => ?_) <;> (try simp at hq) <;> simp [hq, Same, fl, e1, e2, e3, e4])
    | (refine V_cond rfl (fun hq => ?_) (fun hq => ?_) <;> (try simp at hq))
    | (with_reducible refine And.intro (fun hq => ?_) (fun hq => ?_))
    | (with_reducible intro hq)
    | fail)
  all_goals (first | omega | (simp_all []; done) | (simp_all []; omega) | (simp_all []; rw [Bool.eq_iff_iff]; simp [and_assoc]; done) | (simp_all []; rw [Bool.eq_iff_iff]; simp; omega) | (rw [Bool.eq_iff_iff]; simp_all []; done) | (rw [Bool.eq_iff_iff]; simp_all []; omega))

theorem goesOn_ok {l : List Ins} {s : State} {vl r o : Value} {H : Heap} (hl : Rd H vl l) (hlen : l.length < 2 ^ 40) (pc : Int) : ICall pg 51 [vl, stV s r o, .int .i64 pc] H (Same H [stV (goesOn l s pc) r o]) := by
  refine go51 rfl fun C hC => ?_
  have ew := wrap64 (x := (l.length : Int) - 1) (by omega)
  have eb : inB pc 0 (l.length - 1) = decide (0 ≤ pc ∧ pc < l.length) := by
    unfold inB; rw [Bool.eq_iff_iff]; simp; omega
  simp only [stV, goesOn]
  by_cases hg : 0 ≤ pc ∧ pc < l.length
  · rw [if_pos hg]
    repeat' (first
      | refine W_seq ?_
      | refine W_block ?_
      | (refine W_ret ?_; simp [Same, hl.lenV, ew, eb, hg])
      | (refine W_skip ?_; simp [Same, hl.lenV, ew, eb, hg])
      | (refine W_exit ?_; simp [Same, hl.lenV, ew, eb, hg])
      | (refine V_regc hC ?_; simp [Same, hl.lenV, ew, eb, hg])
      | (refine V_reg hC ?_; simp [Same, hl.lenV, ew, eb, hg])
      | (refine (in_ok _ _ _ _).mono ?_; rintro _ _ ⟨rfl, rfl⟩; simp [Same, hl.lenV, ew, eb, hg])
      | (refine w_split rfl (fun hq => ?_) (fun hq => ?_) <;> (try simp at hq) <;> simp [hq, Same, hl.lenV, ew, eb, hg])
      | (refine V_cond rfl (fun hq => ?_) (fun hq => ?_) <;> (try simp at hq))
      | (with_reducible refine And.intro (fun hq => ?_) (fun hq => ?_))
      | (with_reducible intro hq)
      | fail)
  · rw [if_neg hg]
    have eb' : inB pc 0 (l.length - 1) = false := by rw [eb]; simpa using hg
    repeat' (first
      | refine W_seq ?_
      | refine W_block ?_
      | (refine W_ret ?_; simp [Same, hl.lenV, ew, eb', hg])
      | (refine W_skip ?_; simp [Same, hl.lenV, ew, eb', hg])
      | (refine W_exit ?_; simp [Same, hl.lenV, ew, eb', hg])
      | (refine V_regc hC ?_; simp [Same, hl.lenV, ew, eb', hg])
      | (refine V_reg hC ?_; simp [Same, hl.lenV, ew, eb', hg])
      | (refine (in_ok _ _ _ _).mono ?_; rintro _ _ ⟨rfl, rfl⟩; simp [Same, hl.lenV, ew, eb', hg])
      | (refine w_split rfl (fun hq => ?_) (fun hq => ?_) <;> (try simp at hq) <;> simp [hq, Same, hl.lenV, ew, eb', hg])
      | (refine V_cond rfl (fun hq => ?_) (fun hq => ?_) <;> (try simp at hq))
      | (with_reducible refine And.intro (fun hq => ?_) (fun hq => ?_))
      | (with_reducible intro hq)
      | fail)

theorem l2Fault_ok {s : State} {r o : Value} {H : Heap} : ICall pg 37 [stV s r o] H (Same H [stV { s with code := 2 } r o]) := by
  refine go37 rfl fun C hC => ?_
  simp only [stV]
  repeat' (first
    | refine W_seq ?_
    | refine W_block ?_
    | (refine W_ret ?_; simp [Same])
    | (refine W_skip ?_; simp [Same])
    | (refine W_exit ?_; simp [Same])
    | (refine V_regc hC ?_; simp [Same])
    | (refine V_reg hC ?_; simp [Same])
    | (refine w_split rfl (fun hq => ?_) (fun hq => ?_) <;> (try simp at hq) <;> simp [hq, Same])
    | (refine V_cond rfl (fun hq => ?_) (fun hq => ?_) <;> (try simp at hq))
    | (with_reducible refine And.intro (fun hq => ?_) (fun hq => ?_))
    | (with_reducible intro hq)
    | fail)

theorem l2Go_ok {l : List Ins} {s : State} {vl r o : Value} {H : Heap} (hl : Rd H vl l) (hlen : l.length < 2 ^ 40) (hpc : 0 ≤ s.pc ∧ s.pc < l.length) : ICall pg 36 [vl, stV s r o] H (Same H [stV (goesOn l s (s.pc + 1)) r o]) := by
  refine go36 rfl fun C hC => ?_
  have ew := wrap64 (x := s.pc + 1) (by omega)
  simp only [goesOn]
  by_cases hg : 0 ≤ s.pc + 1 ∧ s.pc + 1 < l.length
  · rw [if_pos hg]
    have hn : ¬ (l.length : Int) ≤ s.pc + 1 := by omega
    simp only [stV]
    repeat' (first
      | refine W_seq ?_
      | refine W_block ?_
      | (refine W_ret ?_; simp [Same, hl.lenV, ew, hn])
      | (refine W_skip ?_; simp [Same, hl.lenV, ew, hn])
      | (refine W_exit ?_; simp [Same, hl.lenV, ew, hn])
      | (refine V_regc hC ?_; simp [Same, hl.lenV, ew, hn])
      | (refine V_reg hC ?_; simp [Same, hl.lenV, ew, hn])
      | (refine w_split rfl (fun hq => ?_) (fun hq => ?_) <;> (try simp at hq) <;> simp [hq, Same, hl.lenV, ew, hn])
      | (refine V_cond rfl (fun hq => ?_) (fun hq => ?_) <;> (try simp at hq))
      | (with_reducible refine And.intro (fun hq => ?_) (fun hq => ?_))
      | (with_reducible intro hq)
      | fail)
  · rw [if_neg hg]
    have hn : (l.length : Int) ≤ s.pc + 1 := by omega
    simp only [stV]
    repeat' (first
      | refine W_seq ?_
      | refine W_block ?_
      | (refine W_ret ?_; simp [Same, hl.lenV, ew, hn])
      | (refine W_skip ?_; simp [Same, hl.lenV, ew, hn])
      | (refine W_exit ?_; simp [Same, hl.lenV, ew, hn])
      | (refine V_regc hC ?_; simp [Same, hl.lenV, ew, hn])
      | (refine V_reg hC ?_; simp [Same, hl.lenV, ew, hn])
      | (refine (l2Fault_ok (s := s) (r := r) (o := o)).mono ?_; rintro _ _ ⟨rfl, rfl⟩; simp only [stV]; simp [Same, hl.lenV, ew, hn])
      | (refine w_split rfl (fun hq => ?_) (fun hq => ?_) <;> (try simp at hq) <;> simp [hq, Same, hl.lenV, ew, hn])
      | (refine V_cond rfl (fun hq => ?_) (fun hq => ?_) <;> (try simp at hq))
      | (with_reducible refine And.intro (fun hq => ?_) (fun hq => ?_))
      | (with_reducible intro hq)
      | fail)

theorem clone_ok {v : Value} {xs : List Int} {H : Heap} (h : Rd H v xs) (hl : xs.length ≤ 2 ^ 36) : ICall pg 33 [v] H fun r H' => Gent H H' ∧ ∃ v', r = [v'] ∧ Own H.length H' v' xs := by
  refine go33 rfl fun C hC => ?_
  rcases h.isNil with ⟨rfl, rfl⟩ | ⟨a, n, c, rfl⟩
  · repeat' (first
      | refine W_seq ?_
      | refine W_block ?_
      | (refine W_ret ?_; simp)
      | (refine W_skip ?_; simp)
      | (refine W_exit ?_; simp)
      | (refine V_regc hC ?_; simp)
      | (refine V_reg hC ?_; simp)
      | (refine w_split rfl (fun hq => ?_) (fun hq => ?_) <;> (try simp at hq) <;> simp [hq])
      | (refine V_cond rfl (fun hq => ?_) (fun hq => ?_) <;> (try simp at hq))
      | (with_reducible refine And.intro (fun hq => ?_) (fun hq => ?_))
      | (with_reducible intro hq)
      | fail)
    exact Own.nil
  · obtain rfl : n = xs.length := by simpa using h.lenS
    obtain ⟨v', H', e1, e2, e3⟩ := (Own.laid (Nat.le_refl H.length) ([] : List Int)).app (by simp) xs (bytes := 8) (by omega) (by simp; omega)
    have e4 := (h.gent (gent_add' H ⟨[], 1, true⟩)).cellsOf
    simp [sz, fz] at e1 e4
    repeat' (first
      | refine W_seq ?_
      | refine W_block ?_
      | (refine W_ret ?_; simp [e1, e4])
      | (refine W_skip ?_; simp [e1, e4])
      | (refine W_exit ?_; simp [e1, e4])
      | (refine V_regc hC ?_; simp [e1, e4])
      | (refine V_reg hC ?_; simp [e1, e4])
      | (refine w_split rfl (fun hq => ?_) (fun hq => ?_) <;> (try simp at hq) <;> simp [hq, e1, e4])
      | (refine V_cond rfl (fun hq => ?_) (fun hq => ?_) <;> (try simp at hq))
      | (with_reducible refine And.intro (fun hq => ?_) (fun hq => ?_))
      | (with_reducible intro hq)
      | fail)
    exact ⟨(((gent_add' H _).keep (Nat.le_refl _)).trans e3).gent, e2⟩

end Go.Proofs.Ytpnbojehfngigaa.IM

/- What the functions on one process compute: states behind events. -/
namespace Go.Proofs.Ytpnbojehfngigaa.IM
open Go Go.Proofs Enc Flat
set_option linter.unusedVariables false
set_option linter.unusedSimpArgs false

theorem cloneState_ok {s : State} {r o : Value} {H : Heap} (hr : Rd H r s.regs) (ho : Rd H o s.out) (h1 : s.regs.length ≤ 2 ^ 36) (h2 : s.out.length ≤ 2 ^ 36) :
    ICall pg 16 [stV s r o] H fun res H' => Gent H H' ∧ ∃ r' o', res = [stV s r' o'] ∧ Own2 H.length H' r' s.regs o' s.out := by
  refine go16 rfl fun C hC => ?_
  simp only [stV]
  repeat' (first
    | refine W_seq ?_
    | refine W_block ?_
    | (refine W_ret ?_; simp)
    | (refine W_skip ?_; simp)
    | (refine W_exit ?_; simp)
    | (refine V_regc hC ?_; simp)
    | (refine V_reg hC ?_; simp)
    | (refine (clone_ok hr h1).mono ?_; rintro _ H1 ⟨hg, r', rfl, hr'⟩; simp)
    | (refine (clone_ok (ho.gent hg) h2).mono ?_; rintro _ H2 ⟨hg2, o', rfl, ho'⟩; simp [hr'.rd.cl, ho'.rd.cl])
    | (refine w_split rfl (fun hq => ?_) (fun hq => ?_) <;> (try simp at hq) <;> simp [hq])
    | (refine V_cond rfl (fun hq => ?_) (fun hq => ?_) <;> (try simp at hq))
    | (with_reducible refine And.intro (fun hq => ?_) (fun hq => ?_))
    | (with_reducible intro hq)
    | fail)
  exact ⟨hg.trans hg2, r', o', ⟨rfl, rfl⟩, .mk hr' hg.1 hg2 ho'⟩

theorem faulted_ok {s : State} {r o : Value} {H : Heap} (hr : Rd H r s.regs) (ho : Rd H o s.out) (h1 : s.regs.length ≤ 2 ^ 36) (h2 : s.out.length ≤ 2 ^ 36) :
    ICall pg 50 [stV s r o] H fun res H' => Gent H H' ∧ ∃ r' o', res = [stV { s with code := 2 } r' o'] ∧ Own2 H.length H' r' s.regs o' s.out := by
  refine go50 rfl fun C hC => ?_
  simp only [stV]
  repeat' (first
    | refine W_seq ?_
    | refine W_block ?_
    | (refine W_ret ?_; simp)
    | (refine W_skip ?_; simp)
    | (refine W_exit ?_; simp)
    | (refine V_regc hC ?_; simp)
    | (refine V_reg hC ?_; simp)
    | (refine (cloneState_ok (s := s) hr ho h1 h2).mono ?_; rintro _ H1 ⟨hg, r', o', rfl, hr'⟩; simp only [stV]; simp)
    | (refine w_split rfl (fun hq => ?_) (fun hq => ?_) <;> (try simp at hq) <;> simp [hq])
    | (refine V_cond rfl (fun hq => ?_) (fun hq => ?_) <;> (try simp at hq))
    | (with_reducible refine And.intro (fun hq => ?_) (fun hq => ?_))
    | (with_reducible intro hq)
    | fail)
  exact ⟨hg, r', o', ⟨rfl, rfl⟩, hr'⟩

set_option maxHeartbeats 4000000 in
theorem did_ok {l : List Ins} {s : State} {vl r o : Value} {H : Heap} (e : Event) (hl : Rd H vl l) (hr : Rd H r s.regs) (ho : Rd H o s.out) (hp : Prg l) (hf : Fit l s) (h2 : s.out.length ≤ 2 ^ 36) :
    ICall pg 32 [vl, stV s r o, .agg (fl e).toArray] H fun res H' => Gent H H' ∧ ∃ r' o', res = [stV (didS l s e) r' o'] ∧ Own2 H.length H' r' (didS l s e).regs o' (didS l s e).out := by
  refine go32 rfl fun C hC => ?_
  obtain ⟨hR, hA, hB⟩ := insOk_regs (hp.at hf)
  have h4 := hf.regs
  have hlen := hp.len
  have hpc := hf.pc
  have hA' : 0 ≤ (insAt l s.pc).a ∧ (insAt l s.pc).a < s.regs.length := by omega
  have hB' : 0 ≤ (insAt l s.pc).b ∧ (insAt l s.pc).b < s.regs.length := by omega
  have hR' : 0 ≤ (insAt l s.pc).r ∧ (insAt l s.pc).r < s.regs.length := by omega
  have ew := wrap64 (x := s.pc + 1) (by omega)
  simp only [stV, fl]
  repeat' (first
    | refine W_seq ?_
    | refine W_block ?_
    | (refine W_ret ?_; simp)
    | (refine W_skip ?_; simp)
    | (refine W_exit ?_; simp)
    | (refine V_regc hC ?_; simp)
    | (refine V_reg hC ?_; simp)
    | (refine (cloneState_ok (s := s) hr ho (by omega) h2).mono ?_; rintro _ H1 ⟨hg, r', o', rfl, hw⟩; simp only [stV]; simp)
    | (refine w_split rfl (fun hq => ?_) (fun hq => ?_) <;> (try simp at hq) <;> simp [hq])
    | (refine V_cond rfl (fun hq => ?_) (fun hq => ?_) <;> (try simp at hq))
    | (with_reducible refine And.intro (fun hq => ?_) (fun hq => ?_))
    | (with_reducible intro hq)
    | fail)
  have hl1 := hl.gent hg
  have hr1 := hr.gent hg
  have ho1 := ho.gent hg
  have e1 := hl1.elemPI hf.pc .i64
  have e2 := hl1.atIns hf.pc
  have e3 := hr1.elemPI hA' .i64
  have e4 := hr1.atInt hA'
  have e5 := hw.fst.rd.elemPI hR' .i64
  have e6 := ho1.lenV
  obtain ⟨H2, w1, w2, w3⟩ := hw.wr1 (i := (insAt l s.pc).r.toNat) (by omega) (off := 0) (us := [.int .i64 (reckoned (insAt l s.pc) s.regs)]) (by simp [fz]) (y := reckoned (insAt l s.pc) s.regs) (by simp [fl])
  obtain ⟨H3, u1, u2, u3⟩ := hw.wr1 (i := (insAt l s.pc).r.toNat) (by omega) (off := 0) (us := [.int .i64 e.v]) (by simp [fz]) (y := e.v) (by simp [fl])
  obtain ⟨o2, H4, a1, a2, a3⟩ := (hw.gent (gent_add' H1 ⟨[.int .i64 e.v], 1, true⟩)).app2 (by have := hg.1; simp; omega) [e.v] (bytes := 8) (by omega) (by simp; omega)
  have a4 : (H1.add ⟨[.int .i64 e.v], 1, true⟩).cellsOf (.slice (some ⟨H1.length, 0, none⟩) 1 1) 1 = some [.int .i64 e.v] := (Own.laid (Nat.le_refl H1.length) [e.v]).rd.cellsOf
  have g2 : Gent H H2 := ((hg.keep (Nat.le_refl _)).trans w3).gent
  have g3 : Gent H H3 := ((hg.keep (Nat.le_refl _)).trans u3).gent
  have g4 : Gent H H4 := (((hg.keep (Nat.le_refl _)).trans ((gent_add' H1 ⟨[.int .i64 e.v], 1, true⟩).keep hg.1)).trans a3).gent
  have c1 := hw.fst.rd.cl
  have c2 := a2.snd.rd.cl
  simp [sz, fz, fl] at e1 e2 e3 e4 e5 w1 u1 a1
  have hx : (insAt l s.pc).op = 1 ∨ (insAt l s.pc).op = 2 ∨ (insAt l s.pc).op = 3 ∨ (insAt l s.pc).op = 4 ∨ (insAt l s.pc).op = 5 ∨ (insAt l s.pc).op = 7 ∨ (insAt l s.pc).op = 8 ∨ (insAt l s.pc).op = 9 ∨ (insAt l s.pc).op = 10 ∨ (insAt l s.pc).op = 11 ∨
    ((insAt l s.pc).op ≠ 1 ∧ (insAt l s.pc).op ≠ 2 ∧ (insAt l s.pc).op ≠ 3 ∧ (insAt l s.pc).op ≠ 4 ∧ (insAt l s.pc).op ≠ 5 ∧ (insAt l s.pc).op ≠ 7 ∧ (insAt l s.pc).op ≠ 8 ∧ (insAt l s.pc).op ≠ 9 ∧ (insAt l s.pc).op ≠ 10 ∧ (insAt l s.pc).op ≠ 11) := by omega
  have hk : ∀ k, (insAt l s.pc).op = k → reckoned ⟨k, (insAt l s.pc).r, (insAt l s.pc).a, (insAt l s.pc).b, (insAt l s.pc).n⟩ s.regs = reckoned (insAt l s.pc) s.regs := by rintro k rfl; rfl
  rcases hx with hx | hx | hx | hx | hx | hx | hx | hx | hx | hx | hx
  all_goals (
    (try simp [e1, e2, e3, e4, e5, e6, w1, u1, a1, a4, ew, c1, c2, hx, beq_false_of_ne])
    repeat' (first
      | refine W_seq ?_
      | refine W_block ?_
      | (refine W_ret ?_; simp [e1, e2, e3, e4, e5, e6, w1, u1, a1, a4, ew, c1, c2, hx, beq_false_of_ne])
      | (refine W_skip ?_; simp [e1, e2, e3, e4, e5, e6, w1, u1, a1, a4, ew, c1, c2, hx, beq_false_of_ne])
      | (refine W_exit ?_; simp [e1, e2, e3, e4, e5, e6, w1, u1, a1, a4, ew, c1, c2, hx, beq_false_of_ne])
      | (refine V_regc hC ?_; simp [e1, e2, e3, e4, e5, e6, w1, u1, a1, a4, ew, c1, c2, hx, beq_false_of_ne])
      | (refine V_reg hC ?_; simp [e1, e2, e3, e4, e5, e6, w1, u1, a1, a4, ew, c1, c2, hx, beq_false_of_ne])
      | ((first | refine (reckoned_ok ⟨1, (insAt l s.pc).r, (insAt l s.pc).a, (insAt l s.pc).b, (insAt l s.pc).n⟩ hr1 hA' hB' (by simp)).mono ?_ | refine (reckoned_ok ⟨2, (insAt l s.pc).r, (insAt l s.pc).a, (insAt l s.pc).b, (insAt l s.pc).n⟩ hr1 hA' hB' (by simp)).mono ?_ | refine (reckoned_ok ⟨3, (insAt l s.pc).r, (insAt l s.pc).a, (insAt l s.pc).b, (insAt l s.pc).n⟩ hr1 hA' hB' (by simp)).mono ?_ | refine (reckoned_ok ⟨4, (insAt l s.pc).r, (insAt l s.pc).a, (insAt l s.pc).b, (insAt l s.pc).n⟩ hr1 hA' hB' (by simp)).mono ?_ | refine (reckoned_ok ⟨5, (insAt l s.pc).r, (insAt l s.pc).a, (insAt l s.pc).b, (insAt l s.pc).n⟩ hr1 hA' hB' (by simp)).mono ?_); rintro _ _ ⟨rfl, rfl⟩; rw [hk _ hx]; simp [e1, e2, e3, e4, e5, e6, w1, u1, a1, a4, ew, c1, c2, hx, beq_false_of_ne])
      | (refine (numOk_ok _ _).mono ?_; rintro _ _ ⟨rfl, rfl⟩; simp [e1, e2, e3, e4, e5, e6, w1, u1, a1, a4, ew, c1, c2, hx, beq_false_of_ne])
      | (refine (goesOn_ok (s := s) (by first | exact hl1 | exact hl.gent g2 | exact hl.gent g3 | exact hl.gent g4) (by omega) _).mono ?_; rintro _ _ ⟨rfl, rfl⟩; simp only [stV]; simp [e1, e2, e3, e4, e5, e6, w1, u1, a1, a4, ew, c1, c2, hx, beq_false_of_ne])
      | (refine (faulted_ok (s := s) hr1 ho1 (by omega) h2).mono ?_; rintro _ H5 ⟨hg5, r5, o5, rfl, hw5⟩; simp only [stV]; simp [e1, e2, e3, e4, e5, e6, w1, u1, a1, a4, ew, c1, c2, hx, beq_false_of_ne])
      | (refine w_split rfl (fun hq => ?_) (fun hq => ?_) <;> (try simp at hq) <;> simp [hq, e1, e2, e3, e4, e5, e6, w1, u1, a1, a4, ew, c1, c2, hx, beq_false_of_ne])
      | (refine V_cond rfl (fun hq => ?_) (fun hq => ?_) <;> (try simp at hq))
      | (with_reducible refine And.intro (fun hq => ?_) (fun hq => ?_))
      | (with_reducible intro hq)
      | fail))
  all_goals refine ⟨by first | assumption | exact hg.trans hg5, _, _, ⟨?_, rfl, rfl, ?_⟩, ?_⟩
  all_goals (first
    | (simp [didS, hx, goesOn_same, *]; done)
    | (have hw5' := hw5.le hg.1; simp [didS, hx, goesOn_same, *]; done)
    | (have h60 : 60 ≤ s.out.length := by omega
       simp [didS, hx, goesOn_same, *]; done)
    | (have h60 : 60 ≤ s.out.length := by omega
       have hw5' := hw5.le hg.1
       simp [didS, hx, goesOn_same, *]; done)
    | (have h60 : ¬ 60 ≤ s.out.length := by omega
       simp [didS, hx, goesOn_same, *]; done))

end Go.Proofs.Ytpnbojehfngigaa.IM
