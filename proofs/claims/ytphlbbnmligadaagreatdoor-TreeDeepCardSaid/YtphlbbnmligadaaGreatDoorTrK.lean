/- Deep expressions and statements that a law builds: what lies in memory meanwhile. -/
import Derived.Test.YtphlbbnmligadaaGreatDoorBunK
import Derived.Test.YtphlbbnmligadaaGreatDoorBunO
import Derived.Test.YtphlbbnmligadaaGreatDoorBunS
namespace Go.Proofs.YtphlbbnmligadaaGreatDoor
open Go.RowKit

/-- An expression that is being built: its cells in block X, its parts behind it. -/
structure XD (n0 : World) (wr : World) (X : Nat) (v0 v1 v2 v3 : Value) (y : Ex) : Prop where
  bl : Below n0.heap.size n0 wr
  lt : n0.heap.size ≤ X
  hX : wr.heap[X]? = some (.cells #[v0, v1, v2, v3] 44 (0, 0))
  hy : ExIn wr (XS X wr) [v0, v1, v2, v3] y
theorem XS.mono {X : Nat} {w w' : World} (h : w.heap.size ≤ w'.heap.size) : ∀ b, XS X w b → XS X w' b := fun _ hb => ⟨hb.1, Nat.lt_of_lt_of_le hb.2 h⟩
theorem XD.xlt {n0 wr : World} {X : Nat} {v0 v1 v2 v3 : Value} {y : Ex} (h : XD n0 wr X v0 v1 v2 v3 y) : X < wr.heap.size := (Array.getElem?_eq_some_iff.1 h.hX).1
/-- Behind a call that keeps what is below. -/
theorem XD.call {n0 wr w2 : World} {X : Nat} {v0 v1 v2 v3 : Value} {y : Ex} (h : XD n0 wr X v0 v1 v2 v3 y) (hb : Below wr.heap.size wr w2) : XD n0 w2 X v0 v1 v2 v3 y :=
  ⟨h.bl.trans (hb.mono h.bl.size), h.lt, (hb.block X h.xlt).trans h.hX, (h.hy.keep fun b o hx => hb.cell (p := ⟨b, o, none⟩) hx.2).widen (XS.mono hb.size)⟩
/-- One level more. -/
theorem XD.next {n0 wr : World} {X : Nat} {v0 v1 v2 v3 : Value} {y : Ex} (h : XD n0 wr X v0 v1 v2 v3 y) :
    XD n0 (((((wr.setCell ⟨X, 0, none⟩ (.int .i64 3)).setCell ⟨X, 1, none⟩ (.int .i64 0)).setCell ⟨X, 2, none⟩ (.int .u8 43)).setCell ⟨X, 3, none⟩ (.slice (some ⟨wr.heap.size, 0, none⟩) 2 2)).alloc (.cells #[v0, v1, v2, v3, .int .i64 1, .int .i64 0, .int .u8 0, .slice none 0 0] 44))
      X (.int .i64 3) (.int .i64 0) (.int .u8 43) (.slice (some ⟨wr.heap.size, 0, none⟩) 2 2) (.mk 3 0 43 [y, .mk 1 0 0 []]) := by
  have hx := h.xlt
  have hn := h.lt
  have hX4 : ((((wr.setCell ⟨X, 0, none⟩ (.int .i64 3)).setCell ⟨X, 1, none⟩ (.int .i64 0)).setCell ⟨X, 2, none⟩ (.int .u8 43)).setCell ⟨X, 3, none⟩ (.slice (some ⟨wr.heap.size, 0, none⟩) 2 2)).heap[X]? = some (.cells #[.int .i64 3, .int .i64 0, .int .u8 43, .slice (some ⟨wr.heap.size, 0, none⟩) 2 2] 44 (0, 0)) := by
    simp [World.setCell, Array.getElem?_modify, h.hX]
  have hbl : Below n0.heap.size n0 ((((wr.setCell ⟨X, 0, none⟩ (.int .i64 3)).setCell ⟨X, 1, none⟩ (.int .i64 0)).setCell ⟨X, 2, none⟩ (.int .u8 43)).setCell ⟨X, 3, none⟩ (.slice (some ⟨wr.heap.size, 0, none⟩) 2 2)) := (((h.bl.setCell hn _).setCell hn _).setCell hn _).setCell hn _
  have hk : ∀ b, b ≠ X → ((((wr.setCell ⟨X, 0, none⟩ (.int .i64 3)).setCell ⟨X, 1, none⟩ (.int .i64 0)).setCell ⟨X, 2, none⟩ (.int .u8 43)).setCell ⟨X, 3, none⟩ (.slice (some ⟨wr.heap.size, 0, none⟩) 2 2)).heap[b]? = wr.heap[b]? := fun b hb => by
    iterate 4 rw [Below.heap_setCell _ _ _ _ (by simpa using hb)]
  have hs : ((((wr.setCell ⟨X, 0, none⟩ (.int .i64 3)).setCell ⟨X, 1, none⟩ (.int .i64 0)).setCell ⟨X, 2, none⟩ (.int .u8 43)).setCell ⟨X, 3, none⟩ (.slice (some ⟨wr.heap.size, 0, none⟩) 2 2)).heap.size = wr.heap.size := by simp
  generalize (((wr.setCell ⟨X, 0, none⟩ (.int .i64 3)).setCell ⟨X, 1, none⟩ (.int .i64 0)).setCell ⟨X, 2, none⟩ (.int .u8 43)).setCell ⟨X, 3, none⟩ (.slice (some ⟨wr.heap.size, 0, none⟩) 2 2) = w4 at *
  have hge : n0.heap.size ≤ w4.heap.size := by omega
  refine ⟨hbl.alloc hge _, h.lt, ?_, ?_⟩
  · rw [Below.heap_alloc _ _ _ (by omega)]; exact hX4
  refine ExIn.mk2 (u0 := v0) (u1 := v1) (u2 := v2) (u3 := v3) (v0 := .int .i64 1) (v1 := .int .i64 0) (v2 := .int .u8 0) (v3 := .slice none 0 0) (by decide) (by decide) (by decide) ?_ (fun j => ?_) ?_ ?_
  · exact ⟨hx, by simp; omega⟩
  · have := World.cell?_alloc_new w4 #[v0, v1, v2, v3, .int .i64 1, .int .i64 0, .int .u8 0, .slice none 0 0] 44 j
    rw [hs] at this
    exact this
  · refine (h.hy.keep fun b o hb => ?_).widen (XS.mono (by simp; omega))
    rw [World.cell?_alloc_lt _ _ _ (show b < w4.heap.size by have h2 : b < wr.heap.size := hb.2; omega)]
    exact World.cell?_of_block (hk b (by have := hb.1; omega))
  · exact ExIn.leaf _ _ _ _ _ (by decide) (by decide) (by decide)

def Ps (X B : Nat) (c : Nat) : Prop := X < c ∧ c < B
/-- The expression is built: its parts lie below block B. -/
structure XE (n0 : World) (wr : World) (X B : Nat) (v0 v1 v2 v3 : Value) (y : Ex) : Prop where
  bl : Below n0.heap.size n0 wr
  lt : n0.heap.size ≤ X
  le : X < B
  hX : wr.heap[X]? = some (.cells #[v0, v1, v2, v3] 44 (0, 0))
  hy : ExIn wr (Ps X B) [v0, v1, v2, v3] y
theorem XE.next {n0 wr w2 : World} {X B : Nat} {v0 v1 v2 v3 : Value} {y : Ex} (h : XE n0 wr X B v0 v1 v2 v3 y) (hb : Below n0.heap.size n0 w2) (hk : ∀ b, b < B → w2.heap[b]? = wr.heap[b]?) : XE n0 w2 X B v0 v1 v2 v3 y :=
  ⟨hb, h.lt, h.le, (hk X h.le).trans h.hX, h.hy.keep fun b _o hx => World.cell?_of_block (hk b hx.2)⟩
/-- Statements that are being built: a row of one in block b. -/
structure LD (n0 : World) (wr : World) (X B b : Nat) (v0 v1 v2 v3 : Value) (y : Ex) (cs : List Value) (x : St) : Prop where
  xe : XE n0 wr X B v0 v1 v2 v3 y
  hb : wr.heap[b]? = some (.cells cs.toArray 56 (0, 0))
  le : B ≤ b
  hs : StIn wr (Ps X b) cs x
theorem LD.blt {n0 wr : World} {X B b : Nat} {v0 v1 v2 v3 : Value} {y : Ex} {cs : List Value} {x : St} (h : LD n0 wr X B b v0 v1 v2 v3 y cs x) : b < wr.heap.size := (Array.getElem?_eq_some_iff.1 h.hb).1
theorem LD.start {n0 wr : World} {X : Nat} {v0 v1 v2 v3 : Value} {y : Ex} (h : XD n0 wr X v0 v1 v2 v3 y) :
    LD n0 (wr.alloc (.cells #[.int .i64 9, .int .i64 0, .int .i64 0, v0, v1, v2, v3, .int .i64 0, .int .i64 0, .int .u8 0, .slice none 0 0, .slice none 0 0, .slice none 0 0] 56)) X wr.heap.size wr.heap.size v0 v1 v2 v3 y
      [.int .i64 9, .int .i64 0, .int .i64 0, v0, v1, v2, v3, .int .i64 0, .int .i64 0, .int .u8 0, .slice none 0 0, .slice none 0 0, .slice none 0 0] (.mk 9 0 0 y exZ [] []) := by
  have hx := h.xlt
  have hsz := h.bl.size
  have hy : ExIn (wr.alloc (.cells #[.int .i64 9, .int .i64 0, .int .i64 0, v0, v1, v2, v3, .int .i64 0, .int .i64 0, .int .u8 0, .slice none 0 0, .slice none 0 0, .slice none 0 0] 56)) (Ps X wr.heap.size) [v0, v1, v2, v3] y := (h.hy.keep fun b o hb => World.cell?_alloc_lt _ _ _ hb.2)
  refine ⟨⟨h.bl.alloc hsz _, h.lt, hx, ?_, hy⟩, heap_alloc_new wr _, Nat.le_refl _, ?_⟩
  · rw [Below.heap_alloc _ _ _ hx]; exact h.hX
  · exact StIn.mk 9 0 0 v0 v1 v2 v3 _ _ _ _ y exZ none none 0 0 [] [] (fun _ => []) (fun _ => []) (by decide) (by decide) (by decide) hy (ExIn.leaf _ _ 0 0 0 (by decide) (by decide) (by decide)) Sl.nil Sl.nil (fun i hi => absurd hi (by simp)) (fun i hi => absurd hi (by simp))
theorem LD.call {n0 wr w2 : World} {X B b : Nat} {v0 v1 v2 v3 : Value} {y : Ex} {cs : List Value} {x : St} (h : LD n0 wr X B b v0 v1 v2 v3 y cs x) (hb : Below wr.heap.size wr w2) : LD n0 w2 X B b v0 v1 v2 v3 y cs x := by
  have h1 := h.blt
  have h2 := h.le
  exact ⟨h.xe.next (h.xe.bl.trans (hb.mono h.xe.bl.size)) fun c hc => hb.block c (by omega), (hb.block b h1).trans h.hb, h.le, h.hs.keep fun c o hc => hb.cell (p := ⟨c, o, none⟩) (Nat.lt_trans hc.2 h1)⟩
/-- The row of one. -/
theorem LD.row {n0 wr : World} {X B b : Nat} {v0 v1 v2 v3 : Value} {y : Ex} {cs : List Value} {x : St} (h : LD n0 wr X B b v0 v1 v2 v3 y cs x) : StRow wr (Ps X (b + 1)) (some ⟨b, 0, none⟩) 1 1 [x] := by
  have h1 := h.xe.le
  have h2 := h.le
  refine ⟨rfl, fun _ => cs, ⟨Nat.le_refl _, by decide, fun _ => ⟨b, 0, rfl, ⟨by omega, by omega⟩, fun i hi j hj => ?_⟩⟩, fun i hi => ?_⟩
  · obtain rfl : i = 0 := by simpa using hi
    have hl := h.hs.len
    have hc : wr.cell? ⟨b, j, none⟩ = cs.toArray[j]? := by simp [World.cell?, h.hb]
    simpa using hc
  · obtain rfl : i = 0 := by simpa using hi
    exact h.hs.widen fun c hc => ⟨hc.1, by have := hc.2; omega⟩
/-- One While more. -/
theorem LD.next {n0 wr : World} {X B b : Nat} {v0 v1 v2 v3 : Value} {y : Ex} {cs : List Value} {x : St} (h : LD n0 wr X B b v0 v1 v2 v3 y cs x) :
    LD n0 (wr.alloc (.cells #[.int .i64 11, .int .i64 0, .int .i64 0, .int .i64 1, .int .i64 1, .int .u8 0, .slice none 0 0, .int .i64 0, .int .i64 0, .int .u8 0, .slice none 0 0, .slice (some ⟨b, 0, none⟩) 1 1, .slice none 0 0] 56)) X B wr.heap.size v0 v1 v2 v3 y
      [.int .i64 11, .int .i64 0, .int .i64 0, .int .i64 1, .int .i64 1, .int .u8 0, .slice none 0 0, .int .i64 0, .int .i64 0, .int .u8 0, .slice none 0 0, .slice (some ⟨b, 0, none⟩) 1 1, .slice none 0 0] (.mk 11 0 0 ex1 exZ [x] []) := by
  have h1 := h.blt
  have h2 := h.le
  have hsz := h.xe.bl.size
  have hc := h.call (w2 := wr.alloc (.cells #[.int .i64 11, .int .i64 0, .int .i64 0, .int .i64 1, .int .i64 1, .int .u8 0, .slice none 0 0, .int .i64 0, .int .i64 0, .int .u8 0, .slice none 0 0, .slice (some ⟨b, 0, none⟩) 1 1, .slice none 0 0] 56)) ((Below.refl _ _).alloc (Nat.le_refl _) _)
  obtain ⟨-, C, hl1, hl2⟩ := hc.row.widen (S' := Ps X wr.heap.size) fun c hc => ⟨hc.1, by have := hc.2; omega⟩
  exact ⟨hc.xe, heap_alloc_new wr _, by omega, StIn.mk 11 0 0 _ _ _ _ _ _ _ _ ex1 exZ (some ⟨b, 0, none⟩) none 1 0 [x] [] C (fun _ => []) (by decide) (by decide) (by decide) (ExIn.leaf _ _ 1 1 0 (by decide) (by decide) (by decide)) (ExIn.leaf _ _ 0 0 0 (by decide) (by decide) (by decide)) hl1 Sl.nil hl2 (fun i hi => absurd hi (by simp))⟩

/-- A program that is being built: its names in V, its threads behind it, itself behind these; its one thread's statements in a row of the law's own. -/
structure PD (n0 : World) (wr : World) (X B b V : Nat) (v0 v1 v2 v3 : Value) (y : Ex) (A : Option Addr) (c n : Nat) : Prop where
  xe : XE n0 wr X B v0 v1 v2 v3 y
  le : B ≤ b
  lt : b < V
  hV : wr.heap[V]? = some (.cells #[.string ⟨#[120]⟩] 9 (0, 0))
  hT : wr.heap[V + 1]? = some (.cells #[.slice A n c] 53 (0, 0))
  hP : wr.heap[V + 2]? = some (.cells #[.slice (some ⟨V, 0, none⟩) 1 1, .int .i64 2, .slice (some ⟨V + 1, 0, none⟩) 1 1] 27 (0, 0))
  row : ∃ L : List St, L.length = n ∧ StO wr b (Ps X b) (.slice A n c) L
  ne : ∀ k, (Value.slice A n c).ownBlock = some k → k < V ∨ V + 2 < k
theorem LD.own {n0 wr : World} {X B b : Nat} {v0 v1 v2 v3 : Value} {y : Ex} {cs : List Value} {x : St} (h : LD n0 wr X B b v0 v1 v2 v3 y cs x) : StO wr b (Ps X b) (.slice (some ⟨b, 0, none⟩) 1 1) [x] := by
  have hl := h.hs.len
  refine ⟨[(x, fun i => cs[i]?.getD default)], rfl, ⟨by simp [stC_len], .inr ⟨b, 1, cs.toArray, rfl, Nat.le_refl _, h.hb, Nat.le_refl _, by decide, by simp [hl], ?_⟩⟩, fun z hz => ?_⟩
  · simp only [List.length_cons, List.length_nil, List.flatMap_cons, List.flatMap_nil, List.append_nil]
    rw [stC_of hl]
    exact List.take_of_length_le (by rw [hl]; omega)
  · simp only [List.mem_singleton] at hz
    subst hz
    rw [stC_of hl]
    exact h.hs
theorem PD.start {n0 wr : World} {X B b : Nat} {v0 v1 v2 v3 : Value} {y : Ex} {cs : List Value} {x : St} (h : LD n0 wr X B b v0 v1 v2 v3 y cs x) :
    PD n0 (((wr.alloc (.cells #[.string ⟨#[120]⟩] 9)).alloc (.cells #[.slice (some ⟨b, 0, none⟩) 1 1] 53)).alloc (.cells #[.slice (some ⟨wr.heap.size, 0, none⟩) 1 1, .int .i64 2, .slice (some ⟨wr.heap.size + 1, 0, none⟩) 1 1] 27)) X B b wr.heap.size v0 v1 v2 v3 y (some ⟨b, 0, none⟩) 1 1 := by
  have h1 := h.blt
  have h2 := h.le
  have hk := h.call (w2 := ((wr.alloc (.cells #[.string ⟨#[120]⟩] 9)).alloc (.cells #[.slice (some ⟨b, 0, none⟩) 1 1] 53)).alloc (.cells #[.slice (some ⟨wr.heap.size, 0, none⟩) 1 1, .int .i64 2, .slice (some ⟨wr.heap.size + 1, 0, none⟩) 1 1] 27)) ((((Below.refl _ _).alloc (Nat.le_refl _) _).alloc (by simp) _).alloc (by simp; omega) _)
  refine ⟨hk.xe, h.le, h1, ?_, ?_, ?_, ⟨[x], rfl, hk.own⟩, fun k hk => ?_⟩
  · rw [Below.heap_alloc _ _ _ (by simp; omega), Below.heap_alloc _ _ _ (by simp)]
    exact heap_alloc_new wr _
  · rw [Below.heap_alloc _ _ _ (by simp)]
    have := heap_alloc_new (wr.alloc (.cells #[.string ⟨#[120]⟩] 9)) (.cells #[.slice (some ⟨b, 0, none⟩) 1 1] 53)
    simpa using this
  · have := heap_alloc_new ((wr.alloc (.cells #[.string ⟨#[120]⟩] 9)).alloc (.cells #[.slice (some ⟨b, 0, none⟩) 1 1] 53)) (.cells #[.slice (some ⟨wr.heap.size, 0, none⟩) 1 1, .int .i64 2, .slice (some ⟨wr.heap.size + 1, 0, none⟩) 1 1] 27)
    simpa using this
  · simp [Value.ownBlock] at hk
    omega
theorem PD.plt {n0 wr : World} {X B b V : Nat} {v0 v1 v2 v3 : Value} {y : Ex} {A : Option Addr} {c n : Nat} (h : PD n0 wr X B b V v0 v1 v2 v3 y A c n) : V + 2 < wr.heap.size := (Array.getElem?_eq_some_iff.1 h.hP).1
/-- It is a program. -/
theorem PD.pg {n0 wr : World} {X B b V : Nat} {v0 v1 v2 v3 : Value} {y : Ex} {A : Option Addr} {c n : Nat} (h : PD n0 wr X B b V v0 v1 v2 v3 y A c n) :
    ∃ p : Pg, p.vars.length = 1 ∧ p.ths.length = 1 ∧ p.dom = 2 ∧ PgIn wr (In_ wr) [.slice (some ⟨V, 0, none⟩) 1 1, .int .i64 2, .slice (some ⟨V + 1, 0, none⟩) 1 1] p := by
  obtain ⟨L, rfl, hO⟩ := h.row
  have hp := h.plt
  have hlt := h.lt
  obtain ⟨a, cap, e, hr⟩ := hO.row
  injection e with e1 _ e3
  subst e1 e3
  refine ⟨⟨[⟨#[120]⟩], 2, [L]⟩, rfl, rfl, rfl, some ⟨V, 0, none⟩, 1, some ⟨V + 1, 0, none⟩, 1, rfl, one_str (show V < _ by omega) (cell_of_heap h.hV), ?_, show (Lit.int .i64 2).wf = true by decide⟩
  refine one_ts (show V + 1 < _ by omega) (cell_of_heap h.hT) (hr.widen fun k hk => ?_)
  rcases hk with hk | hk
  · have := hk.2; show k < _; omega
  · exact hk.2
theorem PD.ex {n0 wr : World} {X B b V : Nat} {v0 v1 v2 v3 : Value} {y : Ex} {A : Option Addr} {c n : Nat} (h : PD n0 wr X B b V v0 v1 v2 v3 y A c n) : ExIn wr (In_ wr) [v0, v1, v2, v3] y :=
  h.xe.hy.widen fun k hk => by
    have h1 := h.plt; have h2 := h.lt; have h3 := h.le; have := hk.2
    show k < _; omega
/-- Behind what keeps all that there is. -/
theorem PD.call {n0 wr w2 : World} {X B b V : Nat} {v0 v1 v2 v3 : Value} {y : Ex} {A : Option Addr} {c n : Nat} (h : PD n0 wr X B b V v0 v1 v2 v3 y A c n) (hb : Below wr.heap.size wr w2) : PD n0 w2 X B b V v0 v1 v2 v3 y A c n := by
  have h1 := h.plt
  have h2 := h.lt
  have h3 := h.le
  obtain ⟨L, hL, hO⟩ := h.row
  have hg : wr.grownBy w2 none := ⟨hb.os, hb.tape, hb.output, hb.size, fun i hi _ => hb.block i hi⟩
  exact ⟨h.xe.next (h.xe.bl.trans (hb.mono h.xe.bl.size)) fun c hc => hb.block c (by omega), h.le, h.lt, (hb.block V (by omega)).trans h.hV, (hb.block _ (by omega)).trans h.hT, (hb.block _ h1).trans h.hP,
    ⟨L, hL, hO.kept hg (by cases (Value.slice A n c).ownBlock <;> simp) fun k hk => ⟨by have := hk.2; omega, by simp⟩⟩, h.ne⟩
/-- One statement more. -/
theorem PD.app {n0 wr w2 : World} {o : Obj} {X B b V : Nat} {v0 v1 v2 v3 : Value} {y : Ex} {A A' : Option Addr} {c c' n : Nat} {L : List St} (h : PD n0 wr X B b V v0 v1 v2 v3 y A c n)
    (hg : (wr.alloc o).grownBy w2 (Value.slice A n c).ownBlock) (hL : L.length = n + 1) (hO : StO w2 b (Ps X b) (.slice A' (n + 1) c') L) (hat : (Value.slice A' (n + 1) c').ownBlock = (Value.slice A n c).ownBlock ∨ (Value.slice A' (n + 1) c').ownBlock = some (wr.heap.size + 1)) :
    PD n0 (w2.setCell ⟨V + 1, 0, none⟩ (.slice A' (n + 1) c')) X B b V v0 v1 v2 v3 y A' c' (n + 1) := by
  have h1 := h.plt
  have h2 := h.lt
  have h3 := h.le
  have h4 := h.xe.lt
  have h5 := h.xe.le
  obtain ⟨L0, hL0, hO0⟩ := h.row
  have hown : ∀ k, (Value.slice A n c).ownBlock = some k → b ≤ k := fun k hk => (hO0.own k hk).1
  have hblk : ∀ k, k < wr.heap.size → (∀ g, (Value.slice A n c).ownBlock = some g → k ≠ g) → w2.heap[k]? = wr.heap[k]? := fun k hk hne => by
    rw [hg.block k (by simp; omega) (fun e => hne k e.symm rfl), Below.heap_alloc _ _ _ hk]
  have hsz := hg.size
  have hsz2 : wr.heap.size < w2.heap.size := by simp at hsz; omega
  have hbl : Below n0.heap.size n0 w2 := (h.xe.bl.alloc h.xe.bl.size o).grown hg (by have := h.xe.bl.size; simp; omega) fun k hk => by have := hown k hk; omega
  have hne : ∀ k, (Value.slice A' (n + 1) c').ownBlock = some k → k < V ∨ V + 2 < k := fun k hk => by
    rcases hat with e | e
    · exact h.ne k (e ▸ hk)
    · rw [e] at hk; injection hk; omega
  have hxs : ∀ k, k < B → (w2.setCell ⟨V + 1, 0, none⟩ (.slice A' (n + 1) c')).heap[k]? = wr.heap[k]? := fun k hk => by
    rw [Below.heap_setCell _ _ _ _ (show k ≠ V + 1 by omega)]
    exact hblk k (by omega) fun g hg => by have := hown g hg; omega
  have hsetg : w2.grownBy (w2.setCell ⟨V + 1, 0, none⟩ (.slice A' (n + 1) c')) (some (V + 1)) := ⟨rfl, rfl, rfl, by simp, fun i _ hi => Below.heap_setCell _ _ _ _ (by simpa using fun e : i = V + 1 => hi (by rw [e]))⟩
  refine ⟨h.xe.next (hbl.setCell (show n0.heap.size ≤ V + 1 by omega) _) hxs, h.le, h.lt, ?_, ?_, ?_, ⟨L, hL, hO.kept hsetg (.inr fun e => ?_) fun k hk => ⟨by have := hk.2; omega, by have := hk.2; intro e; injection e; omega⟩⟩, hne⟩
  · rw [Below.heap_setCell _ _ _ _ (by simp), hblk V (by omega) fun g hg => by have := h.ne g hg; omega]
    exact h.hV
  · have e : w2.heap[V + 1]? = some (.cells #[.slice A n c] 53 (0, 0)) := (hblk (V + 1) (by omega) fun g hg => by have := h.ne g hg; omega).trans h.hT
    simp [World.setCell, Array.getElem?_modify, e]
  · rw [Below.heap_setCell _ _ _ _ (by simp), hblk (V + 2) (by omega) fun g hg => by have := h.ne g hg; omega]
    exact h.hP
  · have := hne _ e; omega

/-- append of a statement, out of a new block, in a region that draws its order. -/
theorem step_stO {ops : Array Oper} {o : Oper} {a : Act} {w1 : World} (w : World) {base n : Nat} {S : Nat → Prop} {K : Act → World → Prop} {Q : Exit → Act → World → Prop} {E : Prop} (s x : Operand) (v : Value) (L : List St) (y : St) (cs : List Value) {T : TypeId} (hw1 : w1 = w.alloc (.cells cs.toArray T))
    (hgd : o.guard = none) (ho : o.op = .call { callee := .builtin .append, args := #[s, x], argTypes := #[53, 53] })
    (hsv : a.eval s = v) (hx : a.eval x = .slice (some ⟨w.heap.size, 0, none⟩) 1 1) (hn : L.length = n) (hown : StO w base S v L) (hy : StIn w S cs y) (hb : n + 1 ≤ 100000) (hbase : base ≤ w.heap.size) (hS : ∀ b, S b → b < w.heap.size ∧ some b ≠ v.ownBlock)
    (h : ∀ A c w', StO w' base S (.slice A (n + 1) c) (L ++ [y]) → (w.alloc (.cells cs.toArray T)).grownBy w' v.ownBlock → ((Value.slice A (n + 1) c).ownBlock = v.ownBlock ∨ (Value.slice A (n + 1) c).ownBlock = some (w.heap.size + 1)) → K (a.put o.dst (.slice A (n + 1) c)) w') :
    if Region.wanted o (yielded ops a.tmps) = true then Oper.wp Tryz.prog o a w1 K Q else E := by
  subst hw1
  have hlen := hy.len
  have hones := hy.ones
  have hown1 : StO (w.alloc (.cells cs.toArray T)) base S v L := hown.kept (World.grownBy_alloc w _ none) (by cases v.ownBlock <;> simp) fun b hb => ⟨(hS b hb).1, by simp⟩
  have hy1 : StIn (w.alloc (.cells cs.toArray T)) S cs y := hy.keep fun b o hb => World.cell?_alloc_lt _ _ _ (hS b hb).1
  obtain ⟨LL, rfl, h1, h2⟩ := hown1
  rw [List.length_map] at hn
  subst hn
  obtain ⟨i0, hi, hz0, hz1, hz2⟩ := info_parts_st
  refine step_app hgd s x ho Tryz.underlying53 hi hz0 hz1 hz2 rfl (by decide) v LL.length (LL.flatMap stC) hsv h1 1 cs ⟨_, _, hx, src_new (by rw [hlen])⟩ hones (by simp only [maxLen]; omega) (by omega) (by simp; omega) fun v' w' g1 g2 g3 => ?_
  obtain ⟨A', c', rfl⟩ := own_at g1
  have hk : ∀ b o, S b → w'.cell? ⟨b, o, none⟩ = (w.alloc (.cells cs.toArray T)).cell? ⟨b, o, none⟩ := fun b o hb => World.cell?_of_block (g2.block b (by have := (hS b hb).1; simp; omega) (hS b hb).2)
  refine h A' c' w' ⟨LL ++ [(y, fun i => cs[i]?.getD default)], by simp, ?_, fun z hz => ?_⟩ g2 (by simpa using g3)
  · rw [List.length_append, List.flatMap_append]
    have : [(y, fun i => cs[i]?.getD default)].flatMap stC = cs := by simp [stC_of hlen]
    rw [this]
    exact g1
  · rcases List.mem_append.1 hz with hz | hz
    · exact (h2 z hz).keep hk
    · simp only [List.mem_singleton] at hz
      subst hz
      rw [stC_of hlen]
      exact hy1.keep hk
/-- .. in a plain list of operations. -/
theorem list_stN {ops : Array Oper} {rest : List Oper} {o : Oper} {a : Act} {w : World} {base n : Nat} {S : Nat → Prop} {Q : Exit → Act → World → Prop} (s x : Operand) (v : Value) (L : List St) (y : St) (cs : List Value) {T : TypeId}
    (hgd : o.guard = none) (ho : o.op = .call { callee := .builtin .append, args := #[s, x], argTypes := #[53, 53] })
    (hsv : a.eval s = v) (hx : a.eval x = .slice (some ⟨w.heap.size, 0, none⟩) 1 1) (hn : L.length = n) (hown : StO w base S v L) (hy : StIn w S cs y) (hb : n + 1 ≤ 100000) (hbase : base ≤ w.heap.size) (hS : ∀ b, S b → b < w.heap.size ∧ some b ≠ v.ownBlock)
    (h : ∀ A c w', StO w' base S (.slice A (n + 1) c) (L ++ [y]) → (w.alloc (.cells cs.toArray T)).grownBy w' v.ownBlock → ((Value.slice A (n + 1) c).ownBlock = v.ownBlock ∨ (Value.slice A (n + 1) c).ownBlock = some (w.heap.size + 1)) → wpList Tryz.prog ops Q rest (a.put o.dst (.slice A (n + 1) c)) w') :
    wpList Tryz.prog ops Q (o :: rest) a (w.alloc (.cells cs.toArray T)) := by
  subst hn
  exact list_stO s x v L y cs hgd ho hsv hx hown hy hb hbase hS h
def fenC : List Value := [.int .i64 4, .int .i64 0, .int .i64 0, .int .i64 0, .int .i64 0, .int .u8 0, .slice none 0 0, .int .i64 0, .int .i64 0, .int .u8 0, .slice none 0 0, .slice none 0 0, .slice none 0 0]
def fenS : St := .mk 4 0 0 exZ exZ [] []
def zerC : List Value := [.int .i64 0, .int .i64 0, .int .i64 0, .int .i64 0, .int .i64 0, .int .u8 0, .slice none 0 0, .int .i64 0, .int .i64 0, .int .u8 0, .slice none 0 0, .slice none 0 0, .slice none 0 0]
def zerS : St := .mk 0 0 0 exZ exZ [] []
theorem fen_in (w : World) (S : Nat → Prop) : StIn w S fenC fenS := StIn.mk 4 0 0 _ _ _ _ _ _ _ _ exZ exZ none none 0 0 [] [] (fun _ => []) (fun _ => []) (by decide) (by decide) (by decide) (ExIn.leaf _ _ 0 0 0 (by decide) (by decide) (by decide)) (ExIn.leaf _ _ 0 0 0 (by decide) (by decide) (by decide)) Sl.nil Sl.nil (fun i hi => absurd hi (by simp)) (fun i hi => absurd hi (by simp))
theorem zer_in (w : World) (S : Nat → Prop) : StIn w S zerC zerS := StIn.mk 0 0 0 _ _ _ _ _ _ _ _ exZ exZ none none 0 0 [] [] (fun _ => []) (fun _ => []) (by decide) (by decide) (by decide) (ExIn.leaf _ _ 0 0 0 (by decide) (by decide) (by decide)) (ExIn.leaf _ _ 0 0 0 (by decide) (by decide) (by decide)) Sl.nil Sl.nil (fun i hi => absurd hi (by simp)) (fun i hi => absurd hi (by simp))

/-- A statement's thirteen cells are written. -/
def put13 (w : World) (g off : Nat) (l : List Value) : World := (List.range 13).foldl (fun w j => w.setCell ⟨g, off + j, none⟩ (l[j]?.getD undef)) w
theorem put13_eq (w : World) (g off : Nat) (c0 c1 c2 c3 c4 c5 c6 c7 c8 c9 c10 c11 c12 : Value) : put13 w g off [c0, c1, c2, c3, c4, c5, c6, c7, c8, c9, c10, c11, c12] =
    (((((((((((((w.setCell ⟨g, off, none⟩ c0).setCell ⟨g, off + 1, none⟩ c1).setCell ⟨g, off + 2, none⟩ c2).setCell ⟨g, off + 3, none⟩ c3).setCell ⟨g, off + 4, none⟩ c4).setCell ⟨g, off + 5, none⟩ c5).setCell ⟨g, off + 6, none⟩ c6).setCell ⟨g, off + 7, none⟩ c7).setCell ⟨g, off + 8, none⟩ c8).setCell ⟨g, off + 9, none⟩ c9).setCell ⟨g, off + 10, none⟩ c10).setCell ⟨g, off + 11, none⟩ c11).setCell ⟨g, off + 12, none⟩ c12) := rfl
theorem set_end (A : List Value) (z c : List Value) (hz : z.length = 13) (hc : c.length = 13) (off : Nat) (ho : A.length = off) : (List.range 13).foldl (fun (xs : List Value) j => xs.set (off + j) (c[j]?.getD undef)) (A ++ z) = A ++ c := by
  subst ho
  have key : ∀ (k : Nat) (z : List Value), z.length = 13 → k ≤ 13 → (List.range k).foldl (fun (xs : List Value) j => xs.set (A.length + j) (c[j]?.getD undef)) (A ++ z) = A ++ (c.take k ++ z.drop k) := by
    intro k
    induction k with
    | zero => intro z _ _; simp
    | succ k ih =>
      intro z hz hk
      rw [List.range_succ, List.foldl_append, ih z hz (by omega)]
      simp only [List.foldl_cons, List.foldl_nil]
      rw [List.set_append_right _ _ (by omega)]
      congr 1
      have hkc : k < c.length := by omega
      have hkz : k < z.length := by omega
      rw [show A.length + k - A.length = (c.take k).length + 0 by rw [List.length_take]; omega, List.set_append_right _ _ (by omega)]
      rw [List.take_succ_eq_append_getElem hkc, List.append_assoc]
      simp [List.getElem?_eq_getElem hkc]
      rw [List.drop_eq_getElem_cons hkz]
      rfl
  have := key 13 z hz (Nat.le_refl _)
  rw [this, List.take_of_length_le (by omega), List.drop_of_length_le (by omega), List.append_nil]
theorem ownsRow_put13 {w : World} {B n : Nat} {t : TypeId} {g cap : Nat} {xs : List Value} (h : w.ownsRow B t 13 (.slice (some ⟨g, 0, none⟩) n cap) n xs) (off : Nat) (l : List Value) :
    (put13 w g off l).ownsRow B t 13 (.slice (some ⟨g, 0, none⟩) n cap) n ((List.range 13).foldl (fun (xs : List Value) j => xs.set (off + j) (l[j]?.getD undef)) xs) ∧ w.grownBy (put13 w g off l) (some g) := by
  have key : ∀ (js : List Nat) (w : World) (xs : List Value), w.ownsRow B t 13 (.slice (some ⟨g, 0, none⟩) n cap) n xs →
      (js.foldl (fun w j => w.setCell ⟨g, off + j, none⟩ (l[j]?.getD undef)) w).ownsRow B t 13 (.slice (some ⟨g, 0, none⟩) n cap) n (js.foldl (fun (xs : List Value) j => xs.set (off + j) (l[j]?.getD undef)) xs) ∧
      w.grownBy (js.foldl (fun w j => w.setCell ⟨g, off + j, none⟩ (l[j]?.getD undef)) w) (some g) := by
    intro js
    induction js with
    | nil => intro w xs h; exact ⟨h, ⟨rfl, rfl, rfl, Nat.le_refl _, fun _ _ _ => rfl⟩⟩
    | cons j js ih =>
      intro w xs h
      have h1 := h.stored (off + j) (l[j]?.getD undef)
      have h2 := ih _ _ h1.1
      exact ⟨h2.1, ⟨h2.2.os.trans h1.2.os, h2.2.tape.trans h1.2.tape, h2.2.output.trans h1.2.output, Nat.le_trans h1.2.size h2.2.size, fun i hi hne => (h2.2.block i (Nat.lt_of_lt_of_le hi h1.2.size) hne).trans (h1.2.block i hi hne)⟩⟩
  exact key (List.range 13) w xs h
/-- The last statement of a row of the law's own is written anew. -/
theorem StO.last {w : World} {B n : Nat} {S : Nat → Prop} {A : Option Addr} {c : Nat} {L : List St} {y : St} (h : StO w B S (.slice A (n + 1) c) (L ++ [y])) (hL : L.length = n) (hS : ∀ k, S k → k < B) :
    ∃ g, A = some ⟨g, 0, none⟩ ∧ B ≤ g ∧ g < w.heap.size ∧ n + 1 ≤ c ∧ c ≤ maxLen ∧ (∀ j, j < 13 → ∃ u, w.cell? ⟨g, n * 13 + j, none⟩ = some u) ∧ (∀ j, w.frozen? ⟨g, j, none⟩ = false) ∧
      ∀ (cs : List Value) (x : St), (∀ W, StIn W S cs x) → StO (put13 w g (n * 13) cs) B S (.slice A (n + 1) c) (L ++ [x]) ∧ w.grownBy (put13 w g (n * 13) cs) (some g) := by
  obtain ⟨LL, hLL, h1, h2⟩ := h
  have hlen : LL.length = n + 1 := by
    have := congrArg List.length hLL
    simp at this
    omega
  obtain ⟨LA, z, rfl⟩ : ∃ LA z, LL = LA ++ [z] := ⟨LL.dropLast, LL.getLast (by intro e; rw [e] at hlen; simp at hlen), (List.dropLast_concat_getLast _).symm⟩
  rw [List.map_append, List.map_cons, List.map_nil] at hLL
  have hla : LA.length = n := by simpa using hlen
  obtain ⟨hL1, -⟩ := List.append_inj' hLL rfl
  rw [hlen] at h1
  have h1' := h1
  obtain ⟨hxl, h⟩ := h1'
  rcases h with ⟨e, h0⟩ | ⟨g, cap, cur, e, hb, hg, hle, hcm, hsz, htk⟩
  · omega
  simp only [Value.slice.injEq, true_and] at e
  obtain ⟨rfl, rfl⟩ := e
  have hfa : (LA.flatMap stC).length = n * 13 := by
    rw [flat_size stC 13 stC_len, hla]
  refine ⟨g, rfl, hb, (Array.getElem?_eq_some_iff.1 hg).1, hle, hcm, fun j hj => ?_, fun j => h1.frozenAt j, fun cs x hx => ?_⟩
  · have hc := h1.cellAt (n * 13 + j) (by omega)
    rw [hc, List.getElem?_eq_getElem (by rw [hxl]; omega)]
    exact ⟨_, rfl⟩
  · have hp := ownsRow_put13 h1 (n * 13) cs
    have hcl := (hx w).len
    have hk : ∀ b o, S b → (put13 w g (n * 13) cs).cell? ⟨b, o, none⟩ = w.cell? ⟨b, o, none⟩ := fun b o hb' => by
      rcases Nat.lt_or_ge b w.heap.size with hlt | hge
      · exact World.cell?_of_block (hp.2.block b hlt (by have := hS b hb'; intro e; injection e; omega))
      · have := hS b hb'
        have := (Array.getElem?_eq_some_iff.1 hg).1
        omega
    refine ⟨⟨LA ++ [(x, fun i => cs[i]?.getD default)], by simp [hL1], ?_, fun q hq => ?_⟩, hp.2⟩
    · rw [List.length_append, List.flatMap_append, hla]
      have e1 : [(x, fun i => cs[i]?.getD default)].flatMap stC = cs := by simp [stC_of hcl]
      rw [e1]
      have e2 := hp.1
      rw [List.flatMap_append, set_end (LA.flatMap stC) ([z].flatMap stC) cs (by simp [stC_len]) hcl (n * 13) hfa] at e2
      exact e2
    · rcases List.mem_append.1 hq with hq | hq
      · exact (h2 q (List.mem_append_left _ hq)).keep hk
      · simp only [List.mem_singleton] at hq
        subst hq
        rw [stC_of hcl]
        exact hx _

/-- The last statement becomes a Fence. -/
theorem PD.last {n0 wr : World} {X B b V : Nat} {v0 v1 v2 v3 : Value} {y : Ex} {A : Option Addr} {c n : Nat} (h : PD n0 wr X B b V v0 v1 v2 v3 y A c (n + 1)) :
    ∃ g, A = some ⟨g, 0, none⟩ ∧ g < wr.heap.size ∧ n + 1 ≤ c ∧ c ≤ maxLen ∧ (∀ j, j < 13 → ∃ u, wr.cell? ⟨g, n * 13 + j, none⟩ = some u) ∧ (∀ j, wr.frozen? ⟨g, j, none⟩ = false) ∧
      PD n0 (put13 wr g (n * 13) fenC) X B b V v0 v1 v2 v3 y A c (n + 1) := by
  obtain ⟨L', hL', hO⟩ := h.row
  obtain ⟨L, z, rfl⟩ : ∃ L z, L' = L ++ [z] := ⟨L'.dropLast, L'.getLast (by intro e; rw [e] at hL'; simp at hL'), (List.dropLast_concat_getLast _).symm⟩
  have hL : L.length = n := by simpa using hL'
  obtain ⟨g, rfl, h1, h2, h3, h3', h4, h5, h6⟩ := hO.last hL fun k hk => hk.2
  obtain ⟨h7, h8⟩ := h6 fenC fenS fun W => fen_in W _
  have hne := h.ne g rfl
  have p1 := h.plt
  have p2 := h.lt
  have p3 := h.le
  have p4 := h.xe.lt
  have p5 := h.xe.le
  have hblk : ∀ k, k < wr.heap.size → k ≠ g → (put13 wr g (n * 13) fenC).heap[k]? = wr.heap[k]? := fun k hk hkg => h8.block k hk (by simpa using hkg)
  exact ⟨g, rfl, h2, h3, h3', h4, h5, h.xe.next (h.xe.bl.grown h8 h.xe.bl.size fun k hk => by injection hk; omega) fun k hk => hblk k (by omega) (by omega), h.le, h.lt, (hblk V (by omega) (by omega)).trans h.hV, (hblk (V + 1) (by omega) (by omega)).trans h.hT, (hblk (V + 2) p1 (by omega)).trans h.hP,
    ⟨L ++ [fenS], by simpa using hL', h7⟩, h.ne⟩
end Go.Proofs.YtphlbbnmligadaaGreatDoor
