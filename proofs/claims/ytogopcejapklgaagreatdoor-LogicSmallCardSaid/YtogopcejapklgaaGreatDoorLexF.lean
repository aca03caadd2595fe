/- The tokens of a text: the program's Lex. -/
import Derived.RangeFuncBox
import Derived.RangeFuncWrites
import Derived.Maps.AppendAt
import Derived.Test.YtogopcejapklgaaGreatDoorLexE
namespace Go.Proofs.YtogopcejapklgaaGreatDoor
open Go.RowKit Go.Shelf

attribute [local go_sem] Oper.semAt_some

theorem tokens_in (n : Nat) (s : ByteArray) (w : World) :
    CallsIn Fence.wide n Tryz.prog 24 #[.string s] w fun e w' => e = .returned (.func (.func 43) #[] #[.pointer (some ⟨w.heap.size, 0, none⟩)]) ∧ w' = w.alloc (.cells #[.string s] 9) := by
  refine callsIn_of_wp Tryz.func24 rfl trivial ?_ rfl
  simp only [Tryz.ntmps24, List.size_toArray, List.length_cons, List.length_nil, Nat.reduceAdd, Nat.reduceSub, Array.replicate_succ, Array.replicate_zero, List.push_toArray, List.append_toArray, List.nil_append, List.cons_append]
  gi_wp2
  go_ret
  exact ⟨rfl, rfl⟩

theorem tokens_stops (n : Nat) (hn : 1 ≤ n) (Bs Bo n₀ : Nat) (s : ByteArray) (hs : s.size ≤ 100000) (w : World) (hv : Vars w) (hn₀ : gTop ≤ n₀) (hBs : w.cell? ⟨Bs, 0, none⟩ = some (.string s)) (hne : Bs ≠ Bo) (hO : OutIs w Bo (.slice none 0 0)) :
    SeqStopsK Fence.wide n Tryz.prog 43 #[.pointer (some ⟨Bs, 0, none⟩)] (fun x : Tok × Bool => #[tkV x.1, .bool x.2]) (KpO n₀ Bo) (Came (lexA s.data.toList 0))
      (fun pre => Came (lexA s.data.toList 0) pre ∨ ∀ x ∈ pre, x.2 = true) (s.size + 1) w := fun lo J Jx W hW hJ _ hY h0 =>
  tokens1_in n hn lo Bs Bo n₀ s hs J Jx (fun p A B h hg => hJ p A B none h hg (by simp)) hY W (hv.next hW) hn₀ ((hW.cell (p := ⟨Bs, 0, none⟩) (World.block_lt_of_cell? _ _ hBs)).trans hBs) hne (hO.below hW) h0

/-- append inside a fence, with the block of its answer. -/
theorem listIn_tk {F : Fence} {n : Nat} {w : World} {ops : Array Oper} {rest : List Oper} {o : Oper} {a : Act} {Q : Exit → Act → World → Prop} {base : Nat} (s x : Operand) (v : Value) (k : Nat) (xs : List Value) (m : Nat) (news : List Value)
    (hgd : o.guard = none) (ho : o.op = .call { callee := .builtin .append, args := #[s, x], argTypes := #[37, 37] })
    (hsv : a.eval s = v) (hown : w.ownsRow base 41 4 v k xs) (hsrc : ∃ A c, a.eval x = .slice A m c ∧ SrcAt w 4 A m news) (h1 : ∀ u ∈ news, u.oneCell' = true) (hb : k + m ≤ 100000) (hbase : base ≤ w.heap.size)
    (h : ∀ v' w', w'.ownsRow base 41 4 v' (k + m) (xs ++ news) → w.grownBy w' v.ownBlock → (v'.ownBlock = v.ownBlock ∨ v'.ownBlock = some w.heap.size) → wpListIn F n Tryz.prog ops Q rest (a.put o.dst v') w') :
    wpListIn F n Tryz.prog ops Q (o :: rest) a w := by
  obtain ⟨i0, hi, hz0, hz1, hz2⟩ := info_parts tok_info
  obtain ⟨A, c, hx, hs⟩ := hsrc
  obtain ⟨v', w', hrun, h2, h3, h4⟩ := run_app (P := Tryz.prog) o.type Tryz.underlying37 hi hz0 hz1 hz2 rfl (by decide) hown (c := c) hs h1 (by simp only [maxLen]; omega) (by omega) hbase
  refine wpListIn_plain hgd fun K hK' => ?_
  unfold Oper.wpIn
  refine ⟨?_, ?_⟩
  · simp [Oper.about, ho, resolve, Target.leads, Sem.run_pure]
  · rw [Oper.semAt_plain F _ _ (by rw [ho]; intro c hc'; cases hc')]
    simp [execOp, ho, resolve, invoke, builtin, hsv, hx, hrun, Result.andThen]
    exact hK' _ _ (h v' w' h2 h3 h4)

theorem kpO_alloc {n₀ Bo : Nat} {W : World} (hn : n₀ ≤ W.heap.size) (ob : Obj) : KpO n₀ Bo W (W.alloc ob) := by
  refine ⟨(Below.refl _ _).alloc hn _, fun v hv => ⟨v, hv.below ((Below.refl _ _).alloc (Nat.le_refl _) _), .inl rfl, fun k o hk _ _ _ => ?_⟩⟩
  rw [Below.heap_alloc _ _ _ (Array.getElem?_eq_some_iff.1 hk).1]
  exact hk

/-- A round that appends keeps what the iterator wants. -/
theorem kpO_app {n₀ Bo : Nat} {W w1 : World} {t : TypeId} {v v' : Value} {tmp : Obj} {B : Nat} {e : TypeId} {size m k : Nat} {xs ys : List Value} (hB : Below n₀ W (w1.setCell ⟨Bo, 0, none⟩ v')) (hv : Boxed W Bo t v) (_ : W.ownsRow B e size v k xs)
    (hv2 : Boxed (w1.setCell ⟨Bo, 0, none⟩ v') Bo t v') (hrow2 : (w1.setCell ⟨Bo, 0, none⟩ v').ownsRow B e size v' m ys) (hg : (W.alloc tmp).grownBy w1 v.ownBlock) (hat : v'.ownBlock = v.ownBlock ∨ v'.ownBlock = some (W.alloc tmp).heap.size) : KpO n₀ Bo W (w1.setCell ⟨Bo, 0, none⟩ v') := by
  refine ⟨hB, fun u hu => ?_⟩
  have hc := hv.cell
  rw [hu.1] at hc
  cases hc
  refine ⟨v', ⟨hv2.cell, fun g e => (hrow2.lt g e).2⟩, ?_, fun i o hi _ hb hn => ?_⟩
  · rcases hat with e | e
    · exact .inl e
    · exact .inr ⟨_, e, by simp⟩
  · have hlt := (Array.getElem?_eq_some_iff.1 hi).1
    rw [Below.heap_setCell _ _ _ _ hb, hg.block i (by simp; omega) (fun e => hn e.symm), Below.heap_alloc _ _ _ hlt]
    exact hi
/-- What Lex answers: the tokens, the error, its place. -/
def lexR (L : List UInt8) : List Tok × Int × Int :=
  if 10000 < L.length then ([], 2, 0) else match (lexA L 0).2 with | none => ((lexA L 0).1, 0, 0) | some j => ([], 20, j)
def LexPost (L : List UInt8) (w : World) (e : Ending) (w' : World) : Prop :=
  ∃ a cap, e = .returned (.tuple #[.slice a (lexR L).1.length cap, .int .i64 (lexR L).2.1, .int .i64 (lexR L).2.2]) ∧ TkIn w' (fun b => w.heap.size ≤ b ∧ b < w'.heap.size) a (lexR L).1.length cap (lexR L).1 ∧ Below w.heap.size w w'

/-- No place without a token has come. -/
def AllOk (ys : List (Tok × Bool)) : Prop := ∀ x ∈ ys, x.2 = true
theorem came_ok {L : List UInt8} {ys : List (Tok × Bool)} (h : Came (lexA L 0) ys) (hl : ¬ 10000 < L.length) (ho : ∀ x ∈ ys, x.2 = true) : lexR L = (ys.map (·.1), 0, 0) := by
  unfold Came at h
  unfold lexR
  rw [if_neg hl]
  cases hx : (lexA L 0).2 with
  | none =>
    simp only [hx] at h
    subst h
    simp only [List.map_map]
    have : ((fun x : Tok × Bool => x.1) ∘ fun x : Tok => (x, true)) = id := rfl
    rw [this, List.map_id]
  | some j =>
    simp only [hx] at h
    obtain ⟨t, _, rfl⟩ := h
    have := ho (t, false) (by simp)
    cases this
theorem came_no {L : List UInt8} {ys : List (Tok × Bool)} {x : Tok × Bool} (h : Came (lexA L 0) (ys ++ [x])) (hl : ¬ 10000 < L.length) (hx : x.2 = false) : lexR L = ([], 20, (x.1.place : Int)) := by
  unfold Came at h
  unfold lexR
  rw [if_neg hl]
  cases hn : (lexA L 0).2 with
  | none =>
    simp only [hn] at h
    have : x ∈ (lexA L 0).1.map (fun x : Tok => (x, true)) := by rw [← h]; simp
    obtain ⟨y, _, rfl⟩ := List.mem_map.1 this
    cases hx
  | some j =>
    simp only [hn] at h
    obtain ⟨t, ht, he⟩ := h
    obtain ⟨_, he⟩ := List.append_inj' he rfl
    simp at he
    subst he
    rw [ht]

set_option maxRecDepth 100000 in
set_option maxHeartbeats 4000000 in
theorem lex_in (n : Nat) (hn : 3 ≤ n) (s : ByteArray) (w : World) (hv : Vars w) :
    CallsIn Fence.wide n Tryz.prog 11 #[.string s] w (LexPost s.data.toList w) := by
  have h1 : 1 ≤ n := by omega
  by_cases hlong : 10000 < s.size
  · have hfin : Hid (∀ w', Below w.heap.size w w' → LexPost s.data.toList w (.returned (.tuple #[.slice none 0 0, .int .i64 2, .int .i64 0])) w') := fun w' hB => by
      have : lexR s.data.toList = ([], 2, 0) := by unfold lexR; rw [if_pos (by rw [data_len]; exact hlong)]
      unfold LexPost
      rw [this]
      exact ⟨none, 0, rfl, TkIn.nil_, hB⟩
    have hl' : (10000 : Int) < s.size := by omega
    have hl2 : ¬ (s.size : Int) ≤ 10000 := by omega
    clear hlong
    refine callsIn_of_wp_marks Tryz.func11 rfl trivial ?_ rfl
    simp only [Tryz.ntmps11, List.size_toArray, List.length_cons, List.length_nil, Nat.reduceAdd, Nat.reduceSub, Array.replicate_succ, Array.replicate_zero, List.push_toArray, List.append_toArray, List.nil_append, List.cons_append]
    gi_wp2
    exact ⟨.tuple #[.slice none 0 0, .int .i64 2, .int .i64 0], by simp [results, Tryz.results11, go_sem], hfin.out _ ((((Below.refl _ w).alloc (Nat.le_refl _) _).alloc (by simp) _).alloc (by simp; omega) _)⟩
  · have hs : s.size ≤ 10000 := by omega
    have hs' : (s.size : Int) ≤ 10000 := by omega
    have hl10 : ¬ 10000 < s.data.toList.length := hlong
    have Hl10 := hid hl10
    clear hlong hl10
    refine callsIn_of_wp_marks Tryz.func11 rfl trivial ?_ rfl
    simp only [Tryz.ntmps11, List.size_toArray, List.length_cons, List.length_nil, Nat.reduceAdd, Nat.reduceSub, Array.replicate_succ, Array.replicate_zero, List.push_toArray, List.append_toArray, List.nil_append, List.cons_append]
    have hs2 : decide ((10000 : Int) < s.size) = false := decide_eq_false (by omega)
    gi_wp2
    refine ⟨trivial, ?_⟩
    refine (tokens_in (n - 1) s _).mono ?_
    rintro e w' ⟨rfl, rfl⟩
    gi_wp2
    have bO := Boxed.new w 37 (.slice none 0 0)
    have bE := Boxed.new (w.alloc (.cells #[.slice none 0 0] 37)) 23 (.int .i64 0)
    have bA := Boxed.new ((w.alloc (.cells #[.slice none 0 0] 37)).alloc (.cells #[.int .i64 0] 23)) 3 (.int .i64 0)
    have bS := Boxed.new (((w.alloc (.cells #[.slice none 0 0] 37)).alloc (.cells #[.int .i64 0] 23)).alloc (.cells #[.int .i64 0] 3)) 9 (.string s)
    have bO := ((bO.alloc (.cells #[.int .i64 0] 23)).alloc (.cells #[.int .i64 0] 3)).alloc (.cells #[.string s] 9)
    have bE := (bE.alloc (.cells #[.int .i64 0] 3)).alloc (.cells #[.string s] 9)
    have bA := bA.alloc (.cells #[.string s] 9)
    simp only [World.size_alloc] at bO bE bA bS
    have hB0 : Below w.heap.size w ((((w.alloc (.cells #[.slice none 0 0] 37)).alloc (.cells #[.int .i64 0] 23)).alloc (.cells #[.int .i64 0] 3)).alloc (.cells #[.string s] 9)) := ((((Below.refl _ w).alloc (Nat.le_refl _) _).alloc (by simp) _).alloc (by simp; omega) _).alloc (by simp; omega) _
    have hsz : ((((w.alloc (.cells #[.slice none 0 0] 37)).alloc (.cells #[.int .i64 0] 23)).alloc (.cells #[.int .i64 0] 3)).alloc (.cells #[.string s] 9)).heap.size = w.heap.size + 4 := by simp
    obtain ⟨W0, hW0⟩ : ∃ W0, ((((w.alloc (.cells #[.slice none 0 0] 37)).alloc (.cells #[.int .i64 0] 23)).alloc (.cells #[.int .i64 0] 3)).alloc (.cells #[.string s] 9)) = W0 := ⟨_, rfl⟩
    rw [hW0] at bO bE bA bS hB0 hsz ⊢
    clear hW0
    have hO0 : OutIs W0 w.heap.size (.slice none 0 0) := ⟨bO.cell, fun g e => by simp [Value.ownBlock] at e⟩
    have hle : w.heap.size ≤ W0.heap.size := hB0.size
    refine wpIn_rangeFunc_ownH rfl h1 (gf := 43) (lb := #[.pointer (some ⟨w.heap.size + 1 + 1 + 1, 0, none⟩)]) rfl trivial (enters_of Tryz.func43 (by kernel_rfl) rfl)
      (tokens_stops (n - 1) (by omega) (w.heap.size + 1 + 1 + 1) w.heap.size w.heap.size s (by omega) W0 (hv.next hB0) hv.size bS.cell (by omega) hO0) kpO_t (kpO_b hle) (Below.refl _ _) (fun _ => rfl)
      (fun pre W => ((((∃ v, Boxed W w.heap.size 37 v ∧ W.ownsRow w.heap.size 41 4 v pre.length ((pre.map (·.1)).flatMap tkC) ∧ True) ∧ AllOk pre) ∧ Boxed W (w.heap.size + 1) 23 (.int .i64 0)) ∧ Boxed W (w.heap.size + 1 + 1) 3 (.int .i64 0)) ∧ Below w.heap.size w W ∧ w.heap.size + 4 ≤ W.heap.size)
      (fun c pre W => (c = .ret ∧ ∃ ini last, pre = ini ++ [last] ∧ last.2 = false ∧ W.cell? ⟨w.heap.size, 0, none⟩ = some (.slice none 0 0) ∧ W.cell? ⟨w.heap.size + 1, 0, none⟩ = some (.int .i64 20) ∧ W.cell? ⟨w.heap.size + 1 + 1, 0, none⟩ = some (.int .i64 last.1.place)) ∧ Below w.heap.size w W)
      (OwnFrom.and (Own.from (fun s A B row hs hg hr => ⟨⟨⟨holdsRow_own w.heap.size w.heap.size 37 41 4 (fun pre : List (Tok × Bool) => pre.length) (fun pre => (pre.map (·.1)).flatMap tkC) (fun _ _ => True) s A B row hs.1.1.1 hg hr, hs.1.1.2⟩, boxed_own _ _ (fun (_ : Unit) => Value.int .i64 0) () A B row hs.1.2 hg hr⟩, boxed_own _ _ (fun (_ : Unit) => Value.int .i64 0) () A B row hs.2 hg hr⟩) _) (OwnFrom.and (ownFrom_below (Nat.le_refl _) (by omega)) (fun _ _ _ _ hs hg _ => Nat.le_trans hs hg.size)))
      (fun c => OwnFrom.and (Own.from (fun s A B row hs hg hr => by obtain ⟨hc, ini, last, e1, e2, e3, e4, e5⟩ := hs; exact ⟨hc, ini, last, e1, e2, cell_kept e3 hg hr, cell_kept e4 hg hr, cell_kept e5 hg hr⟩) _) (ownFrom_below (Nat.le_refl _) (by omega)))
      ⟨⟨⟨⟨⟨_, bO, World.ownsRow_nil _ _ _ _, trivial⟩, fun _ h => (by simp at h)⟩, bE⟩, bA⟩, hB0, by omega⟩
      (fun x a' W => ∃ Bx, w.heap.size + 1 + 1 < Bx ∧ TBox W Bx (.int .i64 x.1.kind) (strV x.1.text) (.int .i64 x.1.n) (.int .i64 x.1.place) ∧ a' = { tmps := #[.string s, undef, .pointer (some ⟨w.heap.size, 0, none⟩), .pointer (some ⟨w.heap.size + 1, 0, none⟩), .pointer (some ⟨w.heap.size + 1 + 1, 0, none⟩), .pointer (some ⟨Bx, 0, none⟩), .bool x.2, .string s, .int .i64 s.size, .bool false, .string s, .func (.func 43) #[] #[.pointer (some ⟨w.heap.size + 1 + 1 + 1, 0, none⟩)], tkV x.1, .bool x.2, undef, undef, undef, undef, undef, undef, undef, undef, undef], defers := [] })
      (fun x a' _ X Y row hs hg hr => by
        obtain ⟨Bx, h1, h2, h4⟩ := hs
        obtain ⟨o, ho1, ho2⟩ := cells_of_cell h2.c0
        refine ⟨Bx, h1, h2.block hg.size (hg.block Bx h2.lt (fun e => ?_)), h4⟩
        obtain ⟨_, o', k1, k2⟩ := hr Bx e.symm
        rw [ho1] at k1; cases k1
        rw [ho2] at k2; cases k2)
      ?assign ?body ?done ?stop
    case assign =>
      rintro l' pre x W K ⟨⟨⟨⟨⟨v, hvB, hrow, _⟩, hp⟩, bE1⟩, bA1⟩, hB1, hS1⟩ hK
      gi_wp2
      exact hK _ _ ((KeepsOthers.alloc _ _).from _) (kpO_alloc hB1.size _) ⟨⟨⟨⟨⟨v, hvB.alloc _, hrow.alloc _, trivial⟩, hp⟩, bE1.alloc _⟩, bA1.alloc _⟩, hB1.alloc hB1.size _, by simp; omega⟩ ⟨W.heap.size, bA1.lt, TBox.new W _ _ _ _ _, rfl⟩
    case body =>
      rintro l' pre x a' W hl' ⟨r, hr⟩ ⟨⟨⟨⟨⟨v, hvB, hrow, _⟩, hp⟩, bE1⟩, bA1⟩, hB1, hS1⟩ ⟨Bx, hBx, tb, rfl⟩ hlt
      have c0 := tb.c0
      have c1 := tb.c1
      have c2 := tb.c2
      have c3 := tb.c3
      have cO := hvB.cell
      have fO := hvB.frozen
      have cE := bE1.cell
      have fE := bE1.frozen
      have cA := bA1.cell
      have fA := bA1.frozen
      obtain ⟨x, ok⟩ := x
      cases ok with
      | false =>
        have hmix : Tryz.prog.follows .mixedOrders = true := by kernel_rfl
        gi_wp2
        gi_region_with_o (fail)
        all_goals gi_wp2
        all_goals exact ⟨((((KeepsOthers.setCell _ _ _).trans (KeepsOthers.setCell _ _ _)).trans (KeepsOthers.setCell _ _ _)).trans (KeepsOthers.drew _)).from _, ⟨rfl, pre, (x, false), rfl, rfl, by go_simp, by go_simp, by go_simp⟩, (((hB1.setCell (p := ⟨w.heap.size, 0, none⟩) (Nat.le_refl _) _).setCell (p := ⟨w.heap.size + 1, 0, none⟩) (by simp) _).setCell (p := ⟨w.heap.size + 1 + 1, 0, none⟩) (by simp; omega) _).drew⟩
      | true =>
        have hb100 : pre.length + 1 ≤ 100000 := by omega
        gi_wp2_with (gi_at_builtin
                     refine listIn_tk (base := w.heap.size) (.tmp 18) (.tmp 20) v pre.length ((pre.map (·.1)).flatMap tkC) 1 (tkC x) ?_ ?_ ?_ ?_ ?_ ?_ ?_ ?_ ?_
                     (focus rfl); (focus rfl); (focus rfl); (focus exact hrow.alloc _); (focus exact ⟨_, _, rfl, src_new (news := tkC x) rfl⟩); (focus exact tkC_one1 x); (focus exact hb100); (focus (have := hB1.size; simp; omega))
                     intro v' w1 hown' hg hat
                     obtain ⟨g', cap', rfl⟩ := ownsRow_succ hown'
                     obtain ⟨hv1, hv2, hr2, hk2, hb2⟩ := hvB.appended (by decide) hrow hB1.size (Nat.le_refl _) hown' hg
                     have hc1 := hv1.cell
                     have hf1 := hv1.frozen)
        have hE2 := ((bE1.alloc (.cells #[.int .i64 x.kind, strV x.text, .int .i64 x.n, .int .i64 x.place] 41)).kept hg (bE1.not_row (by decide) hrow)).other (B' := w.heap.size) (by omega) (.slice (some ⟨g', 0, none⟩) (pre.length + 1) cap')
        have hA2 := ((bA1.alloc (.cells #[.int .i64 x.kind, strV x.text, .int .i64 x.n, .int .i64 x.place] 41)).kept hg (bA1.not_row (by decide) hrow)).other (B' := w.heap.size) (by omega) (.slice (some ⟨g', 0, none⟩) (pre.length + 1) cap')
        have hp2 : AllOk (pre ++ [(x, true)]) := by
          intro y hy
          rcases List.mem_append.1 hy with hy | hy
          · exact hp y hy
          · simp at hy; rw [hy]
        have l1 : (pre ++ [(x, true)]).length = pre.length + 1 := by simp
        have l2 : ((pre ++ [(x, true)]).map (·.1)).flatMap tkC = (pre.map (·.1)).flatMap tkC ++ tkC x := by simp
        refine ⟨hk2.from _, kpO_app hb2 hvB hrow hv2 hr2 hg hat, ⟨⟨⟨⟨_, hv2, by rw [l1, l2]; exact hr2⟩, hp2⟩, hE2⟩, hA2⟩, hB1.trans hb2, Nat.le_trans hS1 hb2.size⟩
    case done =>
      rintro D ys W hD hCame ⟨⟨⟨⟨⟨v, hvB, hrow, _⟩, hp⟩, bE1⟩, bA1⟩, hB1, hS1⟩ hK
      have hr := hid (came_ok hCame Hl10.out hp)
      have hrow' : TkO W w.heap.size v (ys.map (·.1)) := by
        unfold TkO
        rw [List.length_map]
        exact hrow
      obtain ⟨a, cap, rfl, hin⟩ := hrow'.in_
      have cO := hvB.cell
      have fO := hvB.frozen
      have cE := bE1.cell
      have fE := bE1.frozen
      have cA := bA1.cell
      have fA := bA1.frozen
      clear hp hCame
      have hin := hid hin
      gi_wp2
      have hlen : (ys.map (·.1)).length = ys.length := List.length_map ..
      have hK' := (((KeepsOthers.setCell W ⟨w.heap.size, 0, none⟩ (.slice a ys.length cap)).trans (KeepsOthers.setCell _ ⟨w.heap.size + 1, 0, none⟩ (.int .i64 0))).trans (KeepsOthers.setCell _ ⟨w.heap.size + 1 + 1, 0, none⟩ (.int .i64 0))).same D _ hK rfl
      refine ⟨by simp, .inl ⟨_, _, rfl, run_takeDeferred hK', ?_⟩⟩
      have d0 : (((W.setCell ⟨w.heap.size, 0, none⟩ (.slice a ys.length cap)).setCell ⟨w.heap.size + 1, 0, none⟩ (.int .i64 0)).setCell ⟨w.heap.size + 1 + 1, 0, none⟩ (.int .i64 0)).cell? ⟨w.heap.size, 0, none⟩ = some (.slice a ys.length cap) := by go_simp
      have d1 : (((W.setCell ⟨w.heap.size, 0, none⟩ (.slice a ys.length cap)).setCell ⟨w.heap.size + 1, 0, none⟩ (.int .i64 0)).setCell ⟨w.heap.size + 1 + 1, 0, none⟩ (.int .i64 0)).cell? ⟨w.heap.size + 1, 0, none⟩ = some (.int .i64 0) := by go_simp
      have d2 : (((W.setCell ⟨w.heap.size, 0, none⟩ (.slice a ys.length cap)).setCell ⟨w.heap.size + 1, 0, none⟩ (.int .i64 0)).setCell ⟨w.heap.size + 1 + 1, 0, none⟩ (.int .i64 0)).cell? ⟨w.heap.size + 1 + 1, 0, none⟩ = some (.int .i64 0) := by go_simp
      have hB2 := ((hB1.setCell (p := ⟨w.heap.size, 0, none⟩) (Nat.le_refl _) (.slice a ys.length cap)).setCell (p := ⟨w.heap.size + 1, 0, none⟩) (by simp) (.int .i64 0)).setCell (p := ⟨w.heap.size + 1 + 1, 0, none⟩) (by simp; omega) (.int .i64 0)
      have hrow2 : TkO (((W.setCell ⟨w.heap.size, 0, none⟩ (.slice a ys.length cap)).setCell ⟨w.heap.size + 1, 0, none⟩ (.int .i64 0)).setCell ⟨w.heap.size + 1 + 1, 0, none⟩ (.int .i64 0)) w.heap.size (.slice a ys.length cap) (ys.map (·.1)) := by
        unfold TkO at hrow' ⊢
        rw [hlen] at hrow' ⊢
        have q0 := hrow'.kept (grownBy_setCell' W w.heap.size (.slice a ys.length cap)) (.inr (by rw [← hlen]; exact (hvB.not_row (by decide) hrow).symm))
        have q1 := q0.kept (grownBy_setCell' _ (w.heap.size + 1) (.int .i64 0)) (.inr (by
          have := bE1.not_row (by decide) hrow
          rw [hlen] at this
          exact this.symm))
        exact q1.kept (grownBy_setCell' _ (w.heap.size + 1 + 1) (.int .i64 0)) (.inr (by
          have := bA1.not_row (by decide) hrow
          rw [hlen] at this
          exact this.symm))
      generalize World.setCell (World.setCell (World.setCell W _ _) _ _) _ _ = W2 at hK' d0 d1 d2 hB2 hrow2 ⊢
      have g0 := cell_kept d0 (grownBy_putObj' _ D (.deferred none)) (fun r e => by cases e; exact ⟨_, hK', rfl⟩)
      have g1 := cell_kept d1 (grownBy_putObj' _ D (.deferred none)) (fun r e => by cases e; exact ⟨_, hK', rfl⟩)
      have g2 := cell_kept d2 (grownBy_putObj' _ D (.deferred none)) (fun r e => by cases e; exact ⟨_, hK', rfl⟩)
      have hrow3 : TkO (W2.putObj D (.deferred none)) w.heap.size (.slice a ys.length cap) (ys.map (·.1)) := ownsRow_putObj hrow2 _ hK' rfl
      obtain ⟨a', cap', he, hin3⟩ := hrow3.in_
      rw [hlen] at he
      obtain ⟨rfl, rfl⟩ : a = a' ∧ cap = cap' := by simpa using he
      refine ⟨.tuple #[.slice a ys.length cap, .int .i64 0, .int .i64 0], by simp [results, Tryz.results11, go_sem, g0, g1, g2], ?_⟩
      unfold LexPost
      rw [hr.out]
      exact ⟨a, cap, by rw [hlen], hin3, hB2.trans (belowK_b (w := w) (Nat.le_refl _) _ D _ _ (by omega) hK' rfl rfl)⟩
    case stop =>
      rintro D c pre W hD hSp ⟨⟨rfl, ini, last, e1, e2, e3, e4, e5⟩, hB1⟩ hK
      have hr : Hid (lexR s.data.toList = ([], 20, (last.1.place : Int))) := by
        rcases hSp with h | h
        · rw [e1] at h
          exact came_no h Hl10.out e2
        · have := h last (by rw [e1]; simp)
          rw [e2] at this
          cases this
      gi_wp2
      refine ⟨by simp, .inl ⟨_, _, rfl, run_takeDeferred hK, ?_⟩⟩
      have g1 := cell_kept e3 (grownBy_putObj' _ D (.deferred none)) (fun r e => by cases e; exact ⟨_, hK, rfl⟩)
      have g2 := cell_kept e4 (grownBy_putObj' _ D (.deferred none)) (fun r e => by cases e; exact ⟨_, hK, rfl⟩)
      have g3 := cell_kept e5 (grownBy_putObj' _ D (.deferred none)) (fun r e => by cases e; exact ⟨_, hK, rfl⟩)
      refine ⟨.tuple #[.slice none 0 0, .int .i64 20, .int .i64 last.1.place], by simp [results, Tryz.results11, go_sem, g1, g2, g3], ?_⟩
      unfold LexPost
      rw [hr.out]
      exact ⟨none, 0, rfl, TkIn.nil_, hB1.trans (belowK_b (w := w) (Nat.le_refl _) _ D _ _ (by omega) hK rfl rfl)⟩

theorem lex_any (s : ByteArray) (w : World) (hv : Vars w) : Calls Tryz.prog 11 #[.string s] w (LexPost s.data.toList w) :=
  callsIn_wide.1 (lex_in 3 (Nat.le_refl _) s w hv)
end Go.Proofs.YtogopcejapklgaaGreatDoor
