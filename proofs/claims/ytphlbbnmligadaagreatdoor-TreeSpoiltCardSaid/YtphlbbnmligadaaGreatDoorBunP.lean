/- Texts of programs: plain lists of bytes. No program in sight. -/
import Derived.Test.YtphlbbnmligadaaGreatDoorBunN
import Derived.Test.YtphlbbnmligadaaGreatDoorTreA
import Derived.Test.YtphlbbnmligadaaGreatDoorRows
import Derived.Test.YtphlbbnmligadaaGreatDoorBunM
import Derived.Lib.Builder
import Derived.Lib.AppendStr
import Derived.Lib.UnsafeStr
import Derived.Lib.OthersKept
import Derived.Laws.Externs
import Derived.Shelf.RegionOpenPlain
namespace Go.Proofs.YtphlbbnmligadaaGreatDoor
open Go.RowKit

/-- A small number's digits. -/
def digB (n : Int) : List UInt8 := if n < 10 then [UInt8.ofNat (48 + n.toNat)] else [UInt8.ofNat (48 + n.toNat / 10), UInt8.ofNat (48 + n.toNat % 10)]
theorem digB_len (n : Int) : 1 ≤ (digB n).length ∧ (digB n).length ≤ 2 := by
  unfold digB; split <;> simp
/-- An expression's text. -/
def Ex.txt : Ex → List UInt8
  | mk k n o l => if k = 1 then digB n else if k = 2 then 114 :: digB n else (match l with
      | [x, y] => [40] ++ x.txt ++ [32] ++ sgn o ++ [32] ++ y.txt ++ [41]
      | _ => [])
termination_by x => SizeOf.sizeOf x
theorem Ex.txt_eq (k n o : Int) (l : List Ex) : Ex.txt (mk k n o l) = if k = 1 then digB n else if k = 2 then 114 :: digB n else (match l with
      | [x, y] => [40] ++ x.txt ++ [32] ++ sgn o ++ [32] ++ y.txt ++ [41]
      | _ => []) := by
  match l with
  | [] | [_] | [_, _] | _ :: _ :: _ :: _ => conv => lhs; unfold Ex.txt
theorem Ex.txt_num (n o : Int) (l : List Ex) : Ex.txt (mk 1 n o l) = digB n := by rw [Ex.txt_eq]; rfl
theorem Ex.txt_reg (n o : Int) (l : List Ex) : Ex.txt (mk 2 n o l) = 114 :: digB n := by rw [Ex.txt_eq]; rfl
theorem Ex.txt_two (n o : Int) (x y : Ex) : Ex.txt (mk 3 n o [x, y]) = [40] ++ x.txt ++ [32] ++ sgn o ++ [32] ++ y.txt ++ [41] := by rw [Ex.txt_eq]; rfl
theorem sgn_len (o : Int) : (sgn o).length ≤ 2 := by
  unfold sgn; repeat' split
  all_goals simp
/-- An expression that may be, opened. -/
theorem Ex.fit_open {dom : Int} {d : Nat} {k n o : Int} {l : List Ex} (h : Ex.fit dom (d + 1) (mk k n o l) = true) :
    (k = 1 ∧ 0 ≤ n ∧ n < dom ∧ o = 0 ∧ l = []) ∨ (k = 2 ∧ 0 ≤ n ∧ n < 4 ∧ o = 0 ∧ l = []) ∨ (k = 3 ∧ n = 0 ∧ isOp o = true ∧ ∃ x y, l = [x, y] ∧ x.fit dom d = true ∧ y.fit dom d = true) := by
  unfold Ex.fit at h
  by_cases h1 : k = 1
  · rw [if_pos h1] at h
    simp only [Bool.and_eq_true, decide_eq_true_eq, beq_iff_eq, List.isEmpty_iff] at h
    exact .inl ⟨h1, h.1.1.1, h.1.1.2, h.1.2, h.2⟩
  rw [if_neg h1] at h
  by_cases h2 : k = 2
  · rw [if_pos h2] at h
    simp only [Bool.and_eq_true, decide_eq_true_eq, beq_iff_eq, List.isEmpty_iff] at h
    exact .inr (.inl ⟨h2, h.1.1.1, h.1.1.2, h.1.2, h.2⟩)
  rw [if_neg h2] at h
  by_cases h3 : k = 3
  · rw [if_pos h3] at h
    simp only [Bool.and_eq_true, beq_iff_eq] at h
    obtain ⟨⟨h4, h5⟩, h6⟩ := h
    match l, h6 with
    | [x, y], h6 =>
      simp only [Bool.and_eq_true] at h6
      exact .inr (.inr ⟨h3, h4, h5, x, y, rfl, h6.1, h6.2⟩)
  · rw [if_neg h3] at h; cases h
theorem Ex.txt_len {dom : Int} : ∀ (d : Nat) (x : Ex), x.fit dom d = true → x.txt.length + 6 ≤ 9 * 2 ^ d
  | 0, x, h => by unfold Ex.fit at h; cases h
  | d + 1, .mk k n o l, h => by
    have hp : 0 < 2 ^ d := Nat.two_pow_pos d
    have e2 : 2 ^ (d + 1) = 2 * 2 ^ d := by rw [Nat.pow_succ]; omega
    rcases Ex.fit_open h with ⟨rfl, -⟩ | ⟨rfl, -⟩ | ⟨rfl, -, -, x, y, rfl, hx, hy⟩
    · rw [Ex.txt_num]; have := digB_len n; omega
    · rw [Ex.txt_reg, List.length_cons]; have := digB_len n; omega
    · rw [Ex.txt_two]
      have := Ex.txt_len d x hx
      have := Ex.txt_len d y hy
      have := sgn_len o
      simp only [List.length_append, List.length_cons, List.length_nil]
      omega
theorem Ex.txt_le {dom : Int} {x : Ex} (h : x.fit dom 20 = true) : x.txt.length ≤ 9437178 := by
  have := Ex.txt_len 20 x h
  omega

def nmB (vs : List ByteArray) (v : Int) : List UInt8 := (vs[v.toNat]?.getD ByteArray.empty).data.toList
def sB (s : ByteArray) : List UInt8 := s.data.toList
/-- What stands ahead of what a register is set to. -/
def toB (r : Int) : List UInt8 := 114 :: digB r ++ [32, 61, 32]
/-- A statement's line or lines, of what is within (without the line's end). -/
def lnF (vs : List ByteArray) (k r v : Int) (a b : Ex) (hasE : Bool) (T E : List UInt8) : List UInt8 :=
  if k = 1 then toB r ++ nmB vs v ++ [59]
  else if k = 2 then nmB vs v ++ [32, 61, 32] ++ a.txt ++ [59]
  else if k = 3 then toB r ++ a.txt ++ [59]
  else if k = 4 then [102, 101, 110, 99, 101, 59]
  else if k = 5 then [115, 102, 101, 110, 99, 101, 59]
  else if k = 6 then toB r ++ [99, 97, 115, 40] ++ nmB vs v ++ [44, 32] ++ a.txt ++ [44, 32] ++ b.txt ++ [41, 59]
  else if k = 7 then [108, 111, 99, 107, 32] ++ nmB vs v ++ [59]
  else if k = 8 then [117, 110, 108, 111, 99, 107, 32] ++ nmB vs v ++ [59]
  else if k = 9 then [97, 115, 115, 101, 114, 116, 32] ++ a.txt ++ [59]
  else if k = 11 then [119, 104, 105, 108, 101, 32] ++ a.txt ++ [32] ++ T
  else [105, 102, 32] ++ a.txt ++ [32] ++ T ++ (if hasE then [32, 101, 108, 115, 101, 32] ++ E else [])
/-- A statement's text. -/
def stB (vs : List ByteArray) : St → List UInt8
  | .mk k r v a b t e => lnF vs k r v a b (decide (e.length ≠ 0)) ([123, 10] ++ t.attach.foldl (fun acc x => acc ++ (stB vs x.1 ++ [10])) [] ++ [125]) ([123, 10] ++ e.attach.foldl (fun acc x => acc ++ (stB vs x.1 ++ [10])) [] ++ [125])
termination_by x => SizeOf.sizeOf x
decreasing_by
  all_goals
    have := List.sizeOf_lt_of_mem x.2
    simp only [St.mk.sizeOf_spec]; omega
def lnsB (vs : List ByteArray) (l : List St) : List UInt8 := l.foldl (fun acc x => acc ++ (stB vs x ++ [10])) []
/-- Statements in braces. -/
def blkB (vs : List ByteArray) (l : List St) : List UInt8 := [123, 10] ++ lnsB vs l ++ [125]
theorem stB_eq (vs : List ByteArray) (x : St) : stB vs x = lnF vs x.kind x.reg x.var x.a x.b (decide (x.e.length ≠ 0)) (blkB vs x.t) (blkB vs x.e) := by
  rcases x with ⟨k, r, v, a, b, t, e⟩
  rw [stB]
  unfold blkB lnsB
  rw [List.foldl_attach (f := fun acc x => acc ++ (stB vs x ++ [10])), List.foldl_attach (f := fun acc x => acc ++ (stB vs x ++ [10]))]
  rfl
theorem lnsB_take (vs : List ByteArray) (l : List St) (i : Nat) (hi : i < l.length) : lnsB vs (l.take (i + 1)) = lnsB vs (l.take i) ++ (stB vs l[i] ++ [10]) := by
  unfold lnsB
  rw [List.take_succ_eq_append_getElem hi, List.foldl_append]
  rfl
theorem lnsB_nil (vs : List ByteArray) : lnsB vs [] = [] := rfl
/-- A program's text. -/
def prB (p : Pg) : List UInt8 :=
  [118, 97, 114, 115] ++ p.vars.foldl (fun acc s => acc ++ ([32] ++ sB s)) [] ++ ([59, 10, 100, 111, 109, 97, 105, 110, 32] ++ digB p.dom ++ [59, 10]) ++ p.ths.foldl (fun acc l => acc ++ ([116, 104, 114, 101, 97, 100, 32] ++ blkB p.vars l ++ [10])) []

/-- How long a statement's text is at most. -/
theorem nmB_len {vs : List ByteArray} (h : vs.all nameB = true) (v : Int) : (nmB vs v).length ≤ 12 := by
  unfold nmB
  rcases hg : vs[v.toNat]? with _ | s
  · exact (by decide : ([] : List UInt8).length ≤ 12)
  · have hm := List.mem_of_getElem? hg
    have hn := (List.all_eq_true.1 h) s hm
    simp only [Option.getD_some]
    unfold nameB at hn
    match hl : s.data.toList with
    | [] => simp
    | c :: l =>
      rw [hl] at hn
      simp only [Bool.and_eq_true, decide_eq_true_eq] at hn
      have e : s.size = s.data.toList.length := rfl
      rw [← hl, ← e]
      exact hn.1.1.1.1
theorem toB_len (r : Int) : (toB r).length ≤ 6 := by unfold toB; have := digB_len r; simp; omega
theorem lnF_len {vs : List ByteArray} (hv : vs.all nameB = true) (k r v : Int) (a b : Ex) (hasE : Bool) (T E : List UInt8) (ha : a.txt.length ≤ 9437178) (hb : b.txt.length ≤ 9437178) : (lnF vs k r v a b hasE T E).length ≤ 20000000 + T.length + E.length := by
  have h1 := nmB_len hv v
  have h2 := toB_len r
  have hE : (if hasE = true then [32, 101, 108, 115, 101, 32] ++ E else []).length ≤ 6 + E.length := by cases hasE <;> simp; omega
  unfold lnF
  generalize (if hasE = true then [32, 101, 108, 115, 101, 32] ++ E else []) = Z at *
  repeat' split
  all_goals
    try simp only [List.length_append, List.length_cons, List.length_nil]
    omega
end Go.Proofs.YtphlbbnmligadaaGreatDoor
namespace Go.Proofs.YtphlbbnmligadaaGreatDoor
open Go.RowKit

theorem u8_info : (Tryz.prog.info? 5).map (fun i => (i.zero, i.size, i.bytes)) = some (some (.int .u8 0), 1, 1) := by kernel_rfl

/-- append of bytes onto a row of the call's own. -/
theorem list_by {ops : Array Oper} {rest : List Oper} {o : Oper} {a : Act} {w : World} {base : Nat} {Q : Exit → Act → World → Prop} (s x : Operand) (v : Value) (n : Nat) (xs : List Value) (m : Nat) (news : List Value)
    (hgd : o.guard = none) (ho : o.op = .call { callee := .builtin .append, args := #[s, x], argTypes := #[22, 22] })
    (hsv : a.eval s = v) (hown : w.ownsRow base 5 1 v n xs) (hsrc : ∃ A c, a.eval x = .slice A m c ∧ SrcAt w 1 A m news) (h1 : ∀ u ∈ news, u.oneCell' = true) (hb : n + m ≤ 100000000) (hbase : base ≤ w.heap.size)
    (h : ∀ v' w', w'.ownsRow base 5 1 v' (n + m) (xs ++ news) → w.grownBy w' v.ownBlock → (v'.ownBlock = v.ownBlock ∨ v'.ownBlock = some w.heap.size) → wpList Tryz.prog ops Q rest (a.put o.dst v') w') :
    wpList Tryz.prog ops Q (o :: rest) a w := by
  obtain ⟨i0, hi, hz0, hz1, hz2⟩ := info_parts u8_info
  exact list_app hgd s x ho Tryz.underlying22 hi hz0 hz1 hz2 rfl (by decide) v n xs hsv hown m news hsrc h1 (by simp only [maxLen]; omega) (by omega) hbase h
theorem step_by {ops : Array Oper} {o : Oper} {a : Act} {w : World} {base : Nat} {K : Act → World → Prop} {Q : Exit → Act → World → Prop} {E : Prop} (s x : Operand) (v : Value) (n : Nat) (xs : List Value) (m : Nat) (news : List Value)
    (hgd : o.guard = none) (ho : o.op = .call { callee := .builtin .append, args := #[s, x], argTypes := #[22, 22] })
    (hsv : a.eval s = v) (hown : w.ownsRow base 5 1 v n xs) (hsrc : ∃ A c, a.eval x = .slice A m c ∧ SrcAt w 1 A m news) (h1 : ∀ u ∈ news, u.oneCell' = true) (hb : n + m ≤ 100000000) (hbase : base ≤ w.heap.size)
    (h : ∀ v' w', w'.ownsRow base 5 1 v' (n + m) (xs ++ news) → w.grownBy w' v.ownBlock → (v'.ownBlock = v.ownBlock ∨ v'.ownBlock = some w.heap.size) → K (a.put o.dst v') w') :
    if Region.wanted o (yielded ops a.tmps) = true then Oper.wp Tryz.prog o a w K Q else E := by
  obtain ⟨i0, hi, hz0, hz1, hz2⟩ := info_parts u8_info
  exact step_app hgd s x ho Tryz.underlying22 hi hz0 hz1 hz2 rfl (by decide) v n xs hsv hown m news hsrc h1 (by simp only [maxLen]; omega) (by omega) hbase h
theorem one_by {p : Int} : ∀ u ∈ [Value.int .u8 p], u.oneCell' = true := by
  intro u hu
  simp at hu
  subst hu
  rfl
theorem two_by {p q : Int} : ∀ u ∈ [Value.int .u8 p, Value.int .u8 q], u.oneCell' = true := by
  intro u hu
  simp at hu
  rcases hu with rfl | rfl <;> rfl

/-- string(row): a row of bytes that holds something. -/
theorem conv_row {w : World} {base : Nat} {v : Value} {l : List Int} (h : w.ownsRow base 5 1 v l.length (l.map (Value.int .u8))) (hl : 0 < l.length) :
    (convert 22 9 v).run Tryz.prog w = .ok (.string (strOfNums l)) w := by
  have h' := h
  obtain ⟨_, h⟩ := h
  rcases h with ⟨rfl, h0⟩ | ⟨g, cap, cur, rfl, hb, hg, hle, hcm, hsz, htk⟩
  · omega
  · refine run_convert_bytes_arg (P := Tryz.prog) w 22 5 Tryz.underlying22 Tryz.underlying5 g 0 l.length cap l rfl (fun i hi => ?_) 9 Tryz.underlying9
    have := h'.cells (g := g) rfl i (.int .u8 l[i]) (by simp [hi])
    rw [Addr.add_lit] at this
    rw [this]
    simp [hi]
end Go.Proofs.YtphlbbnmligadaaGreatDoor
namespace Go.Proofs.YtphlbbnmligadaaGreatDoor
open Go.RowKit

/-- A writer in block wb: it holds the bytes L; its names are vs. -/
def Wt (w : World) (B wb : Nat) (L : List UInt8) (vs : Value) : Prop :=
  B ≤ wb ∧ ∃ p v, (p = .pointer none ∨ p = .pointer (some ⟨wb, 0, none⟩)) ∧ w.heap[wb]? = some (.cells #[p, v, vs] 66 (0, 0)) ∧ w.ownsRow B 5 1 v L.length (Lib.byteCells L) ∧ v.ownBlock ≠ some wb
/-- Behind a writing call. -/
structure Wk (B wb : Nat) (w w' : World) : Prop where
  bl : Below B w w'
  ok : Lib.OthersKept 5 (some wb) w w'
namespace Wk
variable {B wb : Nat} {w w1 w2 : World}
theorem refl : Wk B wb w w := ⟨Below.refl _ _, Lib.OthersKept.refl _ _ _⟩
theorem trans (h : Wk B wb w w1) (k : Wk B wb w1 w2) : Wk B wb w w2 := ⟨h.bl.trans k.bl, h.ok.trans k.ok⟩
theorem drew (h : Wk B wb w w1) : Wk B wb w w1.drew := ⟨h.bl.drew, h.ok.drew⟩
theorem alloc (h : Wk B wb w w1) (hB : B ≤ w1.heap.size) (o : Obj) : Wk B wb w (w1.alloc o) := ⟨h.bl.alloc hB o, h.ok.alloc o⟩
/-- A block that is no row of bytes stands. -/
theorem cells (h : Wk B wb w w1) {k : Nat} {c : Array Value} {T : TypeId} {fz : Nat × Nat} (hk : w.heap[k]? = some (.cells c T fz)) (hne : k ≠ wb) (hT : T ≠ 5) : w1.heap[k]? = some (.cells c T fz) :=
  h.ok k _ hk (by simpa using hne) fun c' fz' e => by injection e with _ e _; exact hT e
/-- What only adds. -/
theorem of_below (h : Below w.heap.size w w1) (hB : B ≤ w.heap.size) : Wk B wb w w1 :=
  ⟨h.mono hB, fun k _ hk _ _ => (h.block k (Array.getElem?_eq_some_iff.1 hk).1).trans hk⟩
end Wk
namespace Wt
variable {B wb : Nat} {w w' : World} {L : List UInt8} {vs : Value}
theorem lt (h : Wt w B wb L vs) : wb < w.heap.size := by
  obtain ⟨_, p, v, _, h1, _⟩ := h
  exact (Array.getElem?_eq_some_iff.1 h1).1
theorem c2 (h : Wt w B wb L vs) : w.cell? ⟨wb, 2, none⟩ = some vs := by
  obtain ⟨_, p, v, _, h1, _⟩ := h
  rw [Lib.cell_of_heap h1]; rfl
/-- Behind what only adds. -/
theorem below (h : Wt w B wb L vs) (hb : Below w.heap.size w w') : Wt w' B wb L vs := by
  have hlt := h.lt
  obtain ⟨hB, p, v, hp, h1, h2, h3⟩ := h
  exact ⟨hB, p, v, hp, (hb.block _ hlt).trans h1, h2.kept (row := none) ⟨hb.os, hb.tape, hb.output, hb.size, fun k hk _ => hb.block k hk⟩ (by cases v.ownBlock <;> simp), h3⟩
end Wt

theorem bld_info : ∃ j, Tryz.prog.info? 64 = some j ∧ j.size = 2 := by
  have h : (Tryz.prog.info? 64).map (fun i => i.size) = some 2 := by kernel_rfl
  obtain ⟨j, hj, e⟩ := Option.map_eq_some_iff.1 h
  exact ⟨j, hj, e⟩
theorem bld_lies : liesAt Tryz.prog Tryz.prog.depth 66 (3 / Tryz.prog.cellsOf 66) 0 64 1 = true := by kernel_rfl

set_option maxRecDepth 100000 in
set_option maxHeartbeats 1000000 in
/-- copyCheck: the writer's own address is kept. -/
theorem copyCheck_any (B wb : Nat) (L : List UInt8) (vs : Value) (w : World) (h : Wt w B wb L vs) :
    Calls Tryz.prog 90 #[.pointer (some ⟨wb, 0, none⟩)] w fun e w' => e = .returned (.tuple #[]) ∧ Wt w' B wb L vs ∧ Wk B wb w w' ∧ w'.cell? ⟨wb, 0, none⟩ = some (.pointer (some ⟨wb, 0, none⟩)) := by
  obtain ⟨j, hj, hjs⟩ := bld_info
  have hlt := h.lt
  obtain ⟨hB, p, v, hp, h1, h2, h3⟩ := h
  have c0 : w.cell? ⟨wb, 0, none⟩ = some p := by rw [Lib.cell_of_heap h1]; rfl
  rcases hp with rfl | rfl
  · have hsh : w.shape? wb = some (66, 3) := by simp [World.shape?, h1]
    have f0 : w.frozen? ⟨wb, 0, none⟩ = false := Lib.frozen_of_heap h1 0
    have HF : Hid (Wt (w.setCell ⟨wb, 0, none⟩ (.pointer (some ⟨wb, 0, none⟩))) B wb L vs) := ⟨hB, _, v, .inr rfl, by simp [World.setCell, Array.getElem?_modify, h1], ownsRow_setCell_other h2 (a := ⟨wb, 0, none⟩) h3 _, h3⟩
    have HK : Hid (Wk B wb w (w.setCell ⟨wb, 0, none⟩ (.pointer (some ⟨wb, 0, none⟩)))) := ⟨(Below.refl _ _).setCell (p := ⟨wb, 0, none⟩) hB _, (Lib.OthersKept.refl _ _ _).setCell ⟨wb, 0, none⟩ rfl _⟩
    clear h1 h2
    go_enter Tryz.func90, Tryz.ntmps90
    go_wp2
    rw [Lib.run_to_unsafe w ⟨wb, 0, none⟩ Tryz.underlying62 Tryz.underlying152 hj (by rw [hjs]; decide) hsh (Nat.zero_lt_succ 2)]
    simp only [Result.andThen]
    rw [Oper.upon_value]
    go_wp2
    rw [run_callFunc_extern Tryz.func120 (by kernel_rfl) (by kernel_rfl) (by kernel_rfl) (e := Extern.AbiNoEscape.same) (by kernel_rfl)]
    rw [Lib.run_noEscape]
    simp only [Result.andThen]
    rw [Oper.upon_value]
    go_wp2
    rw [Lib.run_from_unsafe w ⟨wb, 0, none⟩ Tryz.underlying152 Tryz.underlying62 hj hsh bld_lies]
    simp only [Result.andThen]
    rw [Oper.upon_value]
    go_wp2
    go_end0
    exact ⟨rfl, HF.out, HK.out, by go_simp⟩
  · go_enter Tryz.func90, Tryz.ntmps90
    go_wp2
    rw [Lib.run_neq_ptr_same w _ Tryz.underlying62 hj]
    go_wp2
    go_end0
    exact ⟨rfl, ⟨hB, _, v, .inr rfl, h1, h2, h3⟩, Wk.refl, c0⟩

set_option maxRecDepth 100000 in
set_option maxHeartbeats 1000000 in
theorem writeString_any (B wb : Nat) (L : List UInt8) (vs : Value) (s : ByteArray) (w : World) (h : Wt w B wb L vs) (hlen : L.length + s.size ≤ 100000000000) (hBw : B ≤ w.heap.size) :
    Calls Tryz.prog 51 #[.pointer (some ⟨wb, 0, none⟩), .string s] w fun e w' => e = .returned (.tuple #[.int .i64 s.size, .nilIface]) ∧ Wt w' B wb (L ++ s.data.toList) vs ∧ Wk B wb w w' := by
  obtain ⟨i0, hi, hz0, hz1, hz2⟩ := info_parts u8_info
  have hcc := hid (copyCheck_any B wb L vs w h)
  clear h
  go_enter Tryz.func51, Tryz.ntmps51
  go_wp2_with (go_at_call 90; refine hcc.out.mono ?_)
  rintro e w1 ⟨rfl, h1, k1, p1⟩
  have K1 := hid k1
  have hsz := k1.bl.size
  obtain ⟨hB, p, v, -, hbk, hown, hne⟩ := h1
  have c0 : w1.cell? ⟨wb, 0, none⟩ = some p := by rw [Lib.cell_of_heap hbk]; rfl
  obtain rfl : p = .pointer (some ⟨wb, 0, none⟩) := by
    rw [c0] at p1; injection p1
  have c1 : w1.cell? ⟨wb, 1, none⟩ = some v := by rw [Lib.cell_of_heap hbk]; rfl
  clear k1 hcc p1
  go_wp2_with (at_builtin; refine Lib.wpList_append_own_string _ rfl _ _ 22 9 rfl B 5 i0 Tryz.underlying22 Tryz.underlying9 hi hz0 hz1 hz2 _ _ _ rfl hown s rfl ?c3 ?c4 ?c5 ?_)
  case c3 => unfold maxLen; omega
  case c4 => omega
  case c5 => omega
  intro v' w2 hown' hgrow _
  have hlt : wb < w1.heap.size := (Array.getElem?_eq_some_iff.1 hbk).1
  have hb2 : w2.heap[wb]? = some (.cells #[.pointer (some ⟨wb, 0, none⟩), v, vs] 66 (0, 0)) := by
    rw [hgrow.block wb hlt (fun e => hne e.symm)]
    exact hbk
  have d0 : w2.cell? ⟨wb, 0, none⟩ = some (.pointer (some ⟨wb, 0, none⟩)) := by rw [Lib.cell_of_heap hb2]; rfl
  have d1 : w2.cell? ⟨wb, 1, none⟩ = some v := by rw [Lib.cell_of_heap hb2]; rfl
  have f1 : w2.frozen? ⟨wb, 1, none⟩ = false := Lib.frozen_of_heap hb2 1
  have hlt2 : wb < w2.heap.size := (Array.getElem?_eq_some_iff.1 hb2).1
  obtain ⟨ao, n', cap, rfl⟩ : ∃ ao n' cap, v' = .slice ao n' cap := by
    rcases hown'.2 with ⟨hv, _⟩ | ⟨g, cap, cur, hv, _⟩
    · exact ⟨_, _, _, hv⟩
    · exact ⟨_, _, _, hv⟩
  have hKB : Hid (Wk B wb w1 w2) := ⟨(Below.refl _ _).grown hgrow (by omega) (fun k hk => (hown.lt k hk).1), (Lib.OthersKept.refl _ _ _).grown hgrow fun g hg => by
    obtain ⟨_, hh⟩ := hown
    rcases hh with ⟨rfl, _⟩ | ⟨g', cap', cur, rfl, _, hg', _⟩
    · cases hg
    · have e : g' = g := by simpa [Value.ownBlock] using hg
      subst e
      exact ⟨_, _, hg'⟩⟩
  have hne' : (Value.slice ao n' cap).ownBlock ≠ some wb := fun e => by
    obtain ⟨_, hh⟩ := hown'
    rcases hh with ⟨e2, _⟩ | ⟨g', cap', cur, e2, _, hg', _⟩
    · rw [e2] at e; cases e
    · rw [e2] at e
      have e : g' = wb := by simpa [Value.ownBlock] using e
      subst e
      rw [hb2] at hg'
      injection hg' with hg'
      injection hg' with _ e3 _
      exact absurd e3 (by decide)
  have HF : Hid (Wt (w2.setCell ⟨wb, 1, none⟩ (.slice ao n' cap)) B wb (L ++ s.data.toList) vs) := by
    refine ⟨hB, .pointer (some ⟨wb, 0, none⟩), .slice ao n' cap, .inr rfl, by simp [World.setCell, Array.getElem?_modify, hb2], ?_, hne'⟩
    have e : Lib.byteCells (L ++ s.data.toList) = Lib.byteCells L ++ Lib.strCells s := by unfold Lib.byteCells; rw [List.map_append]; rfl
    have e2 : (L ++ s.data.toList).length = L.length + s.size := by rw [List.length_append]; rfl
    rw [e, e2]
    exact ownsRow_setCell_other hown' (a := ⟨wb, 1, none⟩) hne' _
  have HK : Hid (Wk B wb w (w2.setCell ⟨wb, 1, none⟩ (.slice ao n' cap))) := by
    have h := K1.out.trans hKB.out
    exact ⟨h.bl.setCell (p := ⟨wb, 1, none⟩) hB _, h.ok.setCell ⟨wb, 1, none⟩ rfl _⟩
  clear hown' hgrow hown hbk hb2 hne hne' hKB c0 c1 hB
  go_wp2
  go_ret2
  exact ⟨rfl, HF.out, HK.out⟩

set_option maxRecDepth 100000 in
set_option maxHeartbeats 1000000 in
/-- String: the text that was written. -/
theorem bstring_any (B wb : Nat) (l : List UInt8) (vs : Value) (w : World) (h : Wt w B wb l vs) (h0 : l ≠ []) :
    Calls Tryz.prog 29 #[.pointer (some ⟨wb, 0, none⟩)] w fun e w' => e = .returned (.string ⟨l.toArray⟩) ∧ Below B w w' := by
  obtain ⟨hB, p, v, -, hbk, hown, hne⟩ := h
  have hl0 : l.length ≠ 0 := by simpa using h0
  obtain ⟨g, cap, cur, rfl, hbg, hg, hnc, hcm, hcs⟩ : ∃ g cap cur, v = .slice (some ⟨g, 0, none⟩) l.length cap ∧ B ≤ g ∧ w.heap[g]? = some (.cells cur 5 (0, 0)) ∧ l.length ≤ cap ∧ cap ≤ maxLen ∧ cur.size = cap * 1 := by
    rcases hown.2 with ⟨_, hz⟩ | ⟨g, cap, cur, hv, r1, r2, r3, r4, r5, -⟩
    · exact absurd hz hl0
    · exact ⟨g, cap, cur, hv, r1, r2, r3, r4, r5⟩
  have c1 : w.drew.cell? ⟨wb, 1, none⟩ = some (.slice (some ⟨g, 0, none⟩) l.length cap) := by
    have : w.drew.heap[wb]? = some (.cells #[p, .slice (some ⟨g, 0, none⟩) l.length cap, vs] 66 (0, 0)) := hbk
    rw [Lib.cell_of_heap this]; rfl
  have hSD : (Builtin.unsafeSliceData_ #[22] 106 #[.slice (some ⟨g, 0, none⟩) l.length cap]).run Tryz.prog w.drew = .ok (.pointer (some ⟨g, 0, none⟩)) w.drew :=
    Lib.run_unsafeSliceData_row _ _ _ _ _ _ (by omega)
  have hcells : Tryz.prog.cellsOf 5 = 1 := by kernel_rfl
  have hUS : (Builtin.unsafeString_ #[106, 3] 9 #[.pointer (some ⟨g, 0, none⟩), .int .i64 l.length]).run Tryz.prog w.drew = .ok (.string ⟨l.toArray⟩) (w.drew.freeze ⟨g, 0, none⟩ l.length) := by
    refine Lib.run_unsafeString_row w.drew 106 3 9 5 Tryz.underlying106 hcells g cur.size (by have hg' : w.drew.heap[g]? = some (.cells cur 5 (0, 0)) := hg; simp [World.shape?, hg']) l h0 (by omega) (by unfold maxLen at hcm; omega) ?_
    intro j x hx
    have := hown.cells (g := g) rfl j (.int .u8 x.toNat) (by simp [Lib.byteCells, hx])
    exact this
  have mixed : Tryz.prog.follows .mixedOrders = true := by kernel_rfl
  go_enter Tryz.func29, Tryz.ntmps29
  go_wp2
  go_region_o
  all_goals (go_wp2; go_ret; exact ⟨rfl, Lib.below_freeze (Below.drew (Below.refl B w)) (p := ⟨g, 0, none⟩) hbg _⟩)

/-- put: texts one behind the other. -/
def Strs (w : World) (a : Option Addr) (n cap : Nat) (l : List ByteArray) : Prop :=
  n = l.length ∧ n ≤ cap ∧ cap ≤ maxLen ∧ ∃ b off c fz, a = some ⟨b, off, none⟩ ∧ w.heap[b]? = some (.cells c 9 fz) ∧ ∀ i (h : i < l.length), c[off + i]? = some (.string l[i])
def catB (l : List ByteArray) : List UInt8 := l.flatMap fun s => s.data.toList
theorem catB_take (l : List ByteArray) (k : Nat) (hk : k < l.length) : catB (l.take (k + 1)) = catB (l.take k) ++ l[k].data.toList := by
  unfold catB
  rw [List.take_succ_eq_append_getElem hk, List.flatMap_append]
  simp
theorem catB_le (l : List ByteArray) (k : Nat) : (catB (l.take k)).length ≤ (catB l).length := by
  conv => rhs; rw [← List.take_append_drop k l]
  unfold catB
  rw [List.flatMap_append, List.length_append]
  omega

def PutPost (B wb : Nat) (L : List UInt8) (vs : Value) (w : World) (e : Ending) (w' : World) : Prop := e = .returned (.tuple #[]) ∧ Wt w' B wb L vs ∧ Wk B wb w w'

set_option maxRecDepth 100000 in
set_option maxHeartbeats 2000000 in
theorem put_any (B wb : Nat) (L : List UInt8) (vs : Value) (a : Option Addr) (n cap : Nat) (l : List ByteArray) (w : World) (h : Wt w B wb L vs) (hin : Strs w a n cap l) (hlen : L.length + (catB l).length ≤ 100000000000) (hBw : B ≤ w.heap.size) :
    Calls Tryz.prog 25 #[.pointer (some ⟨wb, 0, none⟩), .slice a n cap] w (PutPost B wb (L ++ catB l) vs w) := by
  obtain ⟨rfl, hle, hmx, b, off, c, fz, rfl, hb, hc⟩ := hin
  unfold maxLen at hmx
  have hwb := h.lt
  have hbw : b ≠ wb := by
    rintro rfl
    obtain ⟨_, p, v, _, h1, _⟩ := h
    rw [h1] at hb
    injection hb with hb
    injection hb with _ e _
    exact absurd e (by decide)
  have H := hid h
  have Hb := hid hb
  have Hc := hid hc
  have Hlen := hid hlen
  clear h hb hc hlen
  go_enter Tryz.func25, Tryz.ntmps25
  go_wp2_with fail
  go_loopw [8] (fun i wr => ∃ k : Nat, k ≤ l.length ∧ i = .int .i64 k ∧ Hid (Wt wr B wb (L ++ catB (l.take k)) vs) ∧ Hid (Wk B wb w wr)) (fun i _ => l.length - (intOf i).toNat)
  case atStart => exact ⟨0, Nat.zero_le _, rfl, by show Wt _ _ _ _ _; simpa [catB] using H.out, Wk.refl⟩
  case round =>
    obtain ⟨k, hk, rfl, hW, hK⟩ := hrel
    have g0 := hK.out.bl.size
    have g4 := hW.out.lt
    by_cases hlt : k < l.length
    · have k0 : (0 : Int) ≤ k := by omega
      have k1 : (k : Int) < l.length := by omega
      have hbr := hK.out.cells Hb.out hbw (by decide)
      have g5 : b < wr.heap.size := (Array.getElem?_eq_some_iff.1 hbr).1
      have e0 : wr.cell? ⟨b, off + k, none⟩ = some (.string l[k]) := by rw [Lib.cell_of_heap hbr]; exact Hc.out k hlt
      have hst := hid (catB_take l k hlt)
      have hle2 := catB_le l (k + 1)
      have hsum : (L ++ catB (l.take k)).length + l[k].size ≤ 100000000000 := by
        rw [hst.out] at hle2
        have := Hlen.out
        have e : l[k].data.toList.length = l[k].size := rfl
        simp only [List.length_append] at hle2 ⊢
        omega
      have hcall := hid (writeString_any B wb _ vs l[k] wr hW.out hsum (by omega))
      clear hbr hle2 hsum hW
      generalize hs : l[k] = s at *
      go_wp2_with (first
        | (go_at_call 51
           with_reducible refine hcall.out.mono ?_
           rintro e w1 ⟨rfl, h1, k1⟩
           have H1 := hid h1
           have HK1 := hid (hK.out.trans k1)
           clear h1 k1)
        | fail)
      go_roundw
      case rel => exact ⟨k + 1, by omega, by simp, by show Wt _ _ _ _ _; rw [hst.out, ← List.append_assoc]; exact H1.out, HK1⟩
      case measure => simp [intOf]; omega
    · obtain rfl : k = l.length := by omega
      rw [List.take_length] at hW
      go_wp2_with fail
      go_end0
      exact ⟨rfl, hW.out, hK.out⟩
end Go.Proofs.YtphlbbnmligadaaGreatDoor
