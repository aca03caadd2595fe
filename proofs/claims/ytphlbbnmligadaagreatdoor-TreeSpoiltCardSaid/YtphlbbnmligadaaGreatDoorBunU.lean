/- Deep expressions and statements that a law builds: what lies in memory meanwhile. -/
import Derived.Test.YtphlbbnmligadaaGreatDoorBunK
import Derived.Test.YtphlbbnmligadaaGreatDoorBunO
import Derived.Test.YtphlbbnmligadaaGreatDoorBunS
import Derived.Test.YtphlbbnmligadaaGreatDoorBunN
namespace Go.Proofs.YtphlbbnmligadaaGreatDoor
open Go.RowKit

/-- An expression that is being built: its cells in block X, its parts behind it. -/
structure XD (n0 : World) (wr : World) (X : Nat) (v0 v1 v2 v3 : Value) (y : Ex) : Prop where
  bl : Below n0.heap.size n0 wr
  lt : n0.heap.size ≤ X
  hX : wr.heap[X]? = some (.cells #[v0, v1, v2, v3] 44 (0, 0))
  hy : ExIn wr (XS X wr) [v0, v1, v2, v3] y
theorem XS.mono {X : Nat} {w w' : World} (h : w.heap.size ≤ w'.heap.size) : ∀ b, XS X w b → XS X w' b := fun _ hb => ⟨hb.1, Nat.lt_of_lt_of_le hb.2 h⟩
theorem XD.xlt {n0 wr : World} {X : Nat} {v0 v1 v2 v3 : Value} {y : Ex} (h : XD n0 wr X v0 v1 v2 v3 y) : X < wr.heap.size := (Array.getElem?_eq_some_iff.1 h.hX).1
/-- Behind a call that keeps what is below. -/
theorem XD.call {n0 wr w2 : World} {X : Nat} {v0 v1 v2 v3 : Value} {y : Ex} (h : XD n0 wr X v0 v1 v2 v3 y) (hb : Below wr.heap.size wr w2) : XD n0 w2 X v0 v1 v2 v3 y :=
  ⟨h.bl.trans (hb.mono h.bl.size), h.lt, (hb.block X h.xlt).trans h.hX, (h.hy.keep fun b o hx => hb.cell (p := ⟨b, o, none⟩) hx.2).widen (XS.mono hb.size)⟩
/-- One level more. -/
theorem XD.next {n0 wr : World} {X : Nat} {v0 v1 v2 v3 : Value} {y : Ex} (h : XD n0 wr X v0 v1 v2 v3 y) :
    XD n0 (((((wr.setCell ⟨X, 0, none⟩ (.int .i64 3)).setCell ⟨X, 1, none⟩ (.int .i64 0)).setCell ⟨X, 2, none⟩ (.int .u8 43)).setCell ⟨X, 3, none⟩ (.slice (some ⟨wr.heap.size, 0, none⟩) 2 2)).alloc (.cells #[v0, v1, v2, v3, .int .i64 1, .int .i64 0, .int .u8 0, .slice none 0 0] 44))
      X (.int .i64 3) (.int .i64 0) (.int .u8 43) (.slice (some ⟨wr.heap.size, 0, none⟩) 2 2) (.mk 3 0 43 [y, .mk 1 0 0 []]) := by
  have hx := h.xlt
  have hn := h.lt
  have hX4 : ((((wr.setCell ⟨X, 0, none⟩ (.int .i64 3)).setCell ⟨X, 1, none⟩ (.int .i64 0)).setCell ⟨X, 2, none⟩ (.int .u8 43)).setCell ⟨X, 3, none⟩ (.slice (some ⟨wr.heap.size, 0, none⟩) 2 2)).heap[X]? = some (.cells #[.int .i64 3, .int .i64 0, .int .u8 43, .slice (some ⟨wr.heap.size, 0, none⟩) 2 2] 44 (0, 0)) := by
    simp [World.setCell, Array.getElem?_modify, h.hX]
  have hbl : Below n0.heap.size n0 ((((wr.setCell ⟨X, 0, none⟩ (.int .i64 3)).setCell ⟨X, 1, none⟩ (.int .i64 0)).setCell ⟨X, 2, none⟩ (.int .u8 43)).setCell ⟨X, 3, none⟩ (.slice (some ⟨wr.heap.size, 0, none⟩) 2 2)) := (((h.bl.setCell hn _).setCell hn _).setCell hn _).setCell hn _
  have hk : ∀ b, b ≠ X → ((((wr.setCell ⟨X, 0, none⟩ (.int .i64 3)).setCell ⟨X, 1, none⟩ (.int .i64 0)).setCell ⟨X, 2, none⟩ (.int .u8 43)).setCell ⟨X, 3, none⟩ (.slice (some ⟨wr.heap.size, 0, none⟩) 2 2)).heap[b]? = wr.heap[b]? := fun b hb => by
    iterate 4 rw [Below.heap_setCell _ _ _ _ (by simpa using hb)]
  have hs : ((((wr.setCell ⟨X, 0, none⟩ (.int .i64 3)).setCell ⟨X, 1, none⟩ (.int .i64 0)).setCell ⟨X, 2, none⟩ (.int .u8 43)).setCell ⟨X, 3, none⟩ (.slice (some ⟨wr.heap.size, 0, none⟩) 2 2)).heap.size = wr.heap.size := by simp
  generalize (((wr.setCell ⟨X, 0, none⟩ (.int .i64 3)).setCell ⟨X, 1, none⟩ (.int .i64 0)).setCell ⟨X, 2, none⟩ (.int .u8 43)).setCell ⟨X, 3, none⟩ (.slice (some ⟨wr.heap.size, 0, none⟩) 2 2) = w4 at *
  have hge : n0.heap.size ≤ w4.heap.size := by omega
  refine ⟨hbl.alloc hge _, h.lt, ?_, ?_⟩
  · rw [Below.heap_alloc _ _ _ (by omega)]; exact hX4
  refine ExIn.mk2 (u0 := v0) (u1 := v1) (u2 := v2) (u3 := v3) (v0 := .int .i64 1) (v1 := .int .i64 0) (v2 := .int .u8 0) (v3 := .slice none 0 0) (by decide) (by decide) (by decide) ?_ (fun j => ?_) ?_ ?_
  · exact ⟨hx, by simp; omega⟩
  · have := World.cell?_alloc_new w4 #[v0, v1, v2, v3, .int .i64 1, .int .i64 0, .int .u8 0, .slice none 0 0] 44 j
    rw [hs] at this
    exact this
  · refine (h.hy.keep fun b o hb => ?_).widen (XS.mono (by simp; omega))
    rw [World.cell?_alloc_lt _ _ _ (show b < w4.heap.size by have h2 : b < wr.heap.size := hb.2; omega)]
    exact World.cell?_of_block (hk b (by have := hb.1; omega))
  · exact ExIn.leaf _ _ _ _ _ (by decide) (by decide) (by decide)

def Ps (X B : Nat) (c : Nat) : Prop := X < c ∧ c < B
/-- The expression is built: its parts lie below block B. -/
structure XE (n0 : World) (wr : World) (X B : Nat) (v0 v1 v2 v3 : Value) (y : Ex) : Prop where
  bl : Below n0.heap.size n0 wr
  lt : n0.heap.size ≤ X
  le : X < B
  hX : wr.heap[X]? = some (.cells #[v0, v1, v2, v3] 44 (0, 0))
  hy : ExIn wr (Ps X B) [v0, v1, v2, v3] y
theorem XE.next {n0 wr w2 : World} {X B : Nat} {v0 v1 v2 v3 : Value} {y : Ex} (h : XE n0 wr X B v0 v1 v2 v3 y) (hb : Below n0.heap.size n0 w2) (hk : ∀ b, b < B → w2.heap[b]? = wr.heap[b]?) : XE n0 w2 X B v0 v1 v2 v3 y :=
  ⟨hb, h.lt, h.le, (hk X h.le).trans h.hX, h.hy.keep fun b _o hx => World.cell?_of_block (hk b hx.2)⟩
/-- Statements that are being built: a row of one in block b. -/
structure LD (n0 : World) (wr : World) (X B b : Nat) (v0 v1 v2 v3 : Value) (y : Ex) (cs : List Value) (x : St) : Prop where
  xe : XE n0 wr X B v0 v1 v2 v3 y
  hb : wr.heap[b]? = some (.cells cs.toArray 56 (0, 0))
  le : B ≤ b
  hs : StIn wr (Ps X b) cs x
theorem LD.blt {n0 wr : World} {X B b : Nat} {v0 v1 v2 v3 : Value} {y : Ex} {cs : List Value} {x : St} (h : LD n0 wr X B b v0 v1 v2 v3 y cs x) : b < wr.heap.size := (Array.getElem?_eq_some_iff.1 h.hb).1
theorem LD.start {n0 wr : World} {X : Nat} {v0 v1 v2 v3 : Value} {y : Ex} (h : XD n0 wr X v0 v1 v2 v3 y) :
    LD n0 (wr.alloc (.cells #[.int .i64 9, .int .i64 0, .int .i64 0, v0, v1, v2, v3, .int .i64 0, .int .i64 0, .int .u8 0, .slice none 0 0, .slice none 0 0, .slice none 0 0] 56)) X wr.heap.size wr.heap.size v0 v1 v2 v3 y
      [.int .i64 9, .int .i64 0, .int .i64 0, v0, v1, v2, v3, .int .i64 0, .int .i64 0, .int .u8 0, .slice none 0 0, .slice none 0 0, .slice none 0 0] (.mk 9 0 0 y exZ [] []) := by
  have hx := h.xlt
  have hsz := h.bl.size
  have hy : ExIn (wr.alloc (.cells #[.int .i64 9, .int .i64 0, .int .i64 0, v0, v1, v2, v3, .int .i64 0, .int .i64 0, .int .u8 0, .slice none 0 0, .slice none 0 0, .slice none 0 0] 56)) (Ps X wr.heap.size) [v0, v1, v2, v3] y := (h.hy.keep fun b o hb => World.cell?_alloc_lt _ _ _ hb.2)
  refine ⟨⟨h.bl.alloc hsz _, h.lt, hx, ?_, hy⟩, heap_alloc_new wr _, Nat.le_refl _, ?_⟩
  · rw [Below.heap_alloc _ _ _ hx]; exact h.hX
  · exact StIn.mk 9 0 0 v0 v1 v2 v3 _ _ _ _ y exZ none none 0 0 [] [] (fun _ => []) (fun _ => []) (by decide) (by decide) (by decide) hy (ExIn.leaf _ _ 0 0 0 (by decide) (by decide) (by decide)) Sl.nil Sl.nil (fun i hi => absurd hi (by simp)) (fun i hi => absurd hi (by simp))
theorem LD.call {n0 wr w2 : World} {X B b : Nat} {v0 v1 v2 v3 : Value} {y : Ex} {cs : List Value} {x : St} (h : LD n0 wr X B b v0 v1 v2 v3 y cs x) (hb : Below wr.heap.size wr w2) : LD n0 w2 X B b v0 v1 v2 v3 y cs x := by
  have h1 := h.blt
  have h2 := h.le
  exact ⟨h.xe.next (h.xe.bl.trans (hb.mono h.xe.bl.size)) fun c hc => hb.block c (by omega), (hb.block b h1).trans h.hb, h.le, h.hs.keep fun c o hc => hb.cell (p := ⟨c, o, none⟩) (Nat.lt_trans hc.2 h1)⟩
/-- The row of one. -/
theorem LD.row {n0 wr : World} {X B b : Nat} {v0 v1 v2 v3 : Value} {y : Ex} {cs : List Value} {x : St} (h : LD n0 wr X B b v0 v1 v2 v3 y cs x) : StRow wr (Ps X (b + 1)) (some ⟨b, 0, none⟩) 1 1 [x] := by
  have h1 := h.xe.le
  have h2 := h.le
  refine ⟨rfl, fun _ => cs, ⟨Nat.le_refl _, by decide, fun _ => ⟨b, 0, rfl, ⟨by omega, by omega⟩, fun i hi j hj => ?_⟩⟩, fun i hi => ?_⟩
  · obtain rfl : i = 0 := by simpa using hi
    have hl := h.hs.len
    have hc : wr.cell? ⟨b, j, none⟩ = cs.toArray[j]? := by simp [World.cell?, h.hb]
    simpa using hc
  · obtain rfl : i = 0 := by simpa using hi
    exact h.hs.widen fun c hc => ⟨hc.1, by have := hc.2; omega⟩
/-- One While more. -/
theorem LD.next {n0 wr : World} {X B b : Nat} {v0 v1 v2 v3 : Value} {y : Ex} {cs : List Value} {x : St} (h : LD n0 wr X B b v0 v1 v2 v3 y cs x) :
    LD n0 (wr.alloc (.cells #[.int .i64 11, .int .i64 0, .int .i64 0, .int .i64 1, .int .i64 1, .int .u8 0, .slice none 0 0, .int .i64 0, .int .i64 0, .int .u8 0, .slice none 0 0, .slice (some ⟨b, 0, none⟩) 1 1, .slice none 0 0] 56)) X B wr.heap.size v0 v1 v2 v3 y
      [.int .i64 11, .int .i64 0, .int .i64 0, .int .i64 1, .int .i64 1, .int .u8 0, .slice none 0 0, .int .i64 0, .int .i64 0, .int .u8 0, .slice none 0 0, .slice (some ⟨b, 0, none⟩) 1 1, .slice none 0 0] (.mk 11 0 0 ex1 exZ [x] []) := by
  have h1 := h.blt
  have h2 := h.le
  have hsz := h.xe.bl.size
  have hc := h.call (w2 := wr.alloc (.cells #[.int .i64 11, .int .i64 0, .int .i64 0, .int .i64 1, .int .i64 1, .int .u8 0, .slice none 0 0, .int .i64 0, .int .i64 0, .int .u8 0, .slice none 0 0, .slice (some ⟨b, 0, none⟩) 1 1, .slice none 0 0] 56)) ((Below.refl _ _).alloc (Nat.le_refl _) _)
  obtain ⟨-, C, hl1, hl2⟩ := hc.row.widen (S' := Ps X wr.heap.size) fun c hc => ⟨hc.1, by have := hc.2; omega⟩
  exact ⟨hc.xe, heap_alloc_new wr _, by omega, StIn.mk 11 0 0 _ _ _ _ _ _ _ _ ex1 exZ (some ⟨b, 0, none⟩) none 1 0 [x] [] C (fun _ => []) (by decide) (by decide) (by decide) (ExIn.leaf _ _ 1 1 0 (by decide) (by decide) (by decide)) (ExIn.leaf _ _ 0 0 0 (by decide) (by decide) (by decide)) hl1 Sl.nil hl2 (fun i hi => absurd hi (by simp))⟩

/-- A program that is being built: its names in V, its threads behind it, itself behind these; its one thread's statements in a row of the law's own. -/
structure PD (n0 : World) (wr : World) (X B b V : Nat) (v0 v1 v2 v3 : Value) (y : Ex) (A : Option Addr) (c n : Nat) : Prop where
  xe : XE n0 wr X B v0 v1 v2 v3 y
  le : B ≤ b
  lt : b < V
  hV : wr.heap[V]? = some (.cells #[.string ⟨#[120]⟩] 9 (0, 0))
  hT : wr.heap[V + 1]? = some (.cells #[.slice A n c] 53 (0, 0))
  hP : wr.heap[V + 2]? = some (.cells #[.slice (some ⟨V, 0, none⟩) 1 1, .int .i64 2, .slice (some ⟨V + 1, 0, none⟩) 1 1] 27 (0, 0))
  row : ∃ L : List St, L.length = n ∧ StO wr b (Ps X b) (.slice A n c) L
  ne : ∀ k, (Value.slice A n c).ownBlock = some k → k < V ∨ V + 2 < k
theorem LD.own {n0 wr : World} {X B b : Nat} {v0 v1 v2 v3 : Value} {y : Ex} {cs : List Value} {x : St} (h : LD n0 wr X B b v0 v1 v2 v3 y cs x) : StO wr b (Ps X b) (.slice (some ⟨b, 0, none⟩) 1 1) [x] := by
  have hl := h.hs.len
  refine ⟨[(x, fun i => cs[i]?.getD default)], rfl, ⟨by simp [stC_len], .inr ⟨b, 1, cs.toArray, rfl, Nat.le_refl _, h.hb, Nat.le_refl _, by decide, by simp [hl], ?_⟩⟩, fun z hz => ?_⟩
  · simp only [List.length_cons, List.length_nil, List.flatMap_cons, List.flatMap_nil, List.append_nil]
    rw [stC_of hl]
    exact List.take_of_length_le (by rw [hl]; omega)
  · simp only [List.mem_singleton] at hz
    subst hz
    rw [stC_of hl]
    exact h.hs
theorem PD.start {n0 wr : World} {X B b : Nat} {v0 v1 v2 v3 : Value} {y : Ex} {cs : List Value} {x : St} (h : LD n0 wr X B b v0 v1 v2 v3 y cs x) :
    PD n0 (((wr.alloc (.cells #[.string ⟨#[120]⟩] 9)).alloc (.cells #[.slice (some ⟨b, 0, none⟩) 1 1] 53)).alloc (.cells #[.slice (some ⟨wr.heap.size, 0, none⟩) 1 1, .int .i64 2, .slice (some ⟨wr.heap.size + 1, 0, none⟩) 1 1] 27)) X B b wr.heap.size v0 v1 v2 v3 y (some ⟨b, 0, none⟩) 1 1 := by
  have h1 := h.blt
  have h2 := h.le
  have hk := h.call (w2 := ((wr.alloc (.cells #[.string ⟨#[120]⟩] 9)).alloc (.cells #[.slice (some ⟨b, 0, none⟩) 1 1] 53)).alloc (.cells #[.slice (some ⟨wr.heap.size, 0, none⟩) 1 1, .int .i64 2, .slice (some ⟨wr.heap.size + 1, 0, none⟩) 1 1] 27)) ((((Below.refl _ _).alloc (Nat.le_refl _) _).alloc (by simp) _).alloc (by simp; omega) _)
  refine ⟨hk.xe, h.le, h1, ?_, ?_, ?_, ⟨[x], rfl, hk.own⟩, fun k hk => ?_⟩
  · rw [Below.heap_alloc _ _ _ (by simp; omega), Below.heap_alloc _ _ _ (by simp)]
    exact heap_alloc_new wr _
  · rw [Below.heap_alloc _ _ _ (by simp)]
    have := heap_alloc_new (wr.alloc (.cells #[.string ⟨#[120]⟩] 9)) (.cells #[.slice (some ⟨b, 0, none⟩) 1 1] 53)
    simpa using this
  · have := heap_alloc_new ((wr.alloc (.cells #[.string ⟨#[120]⟩] 9)).alloc (.cells #[.slice (some ⟨b, 0, none⟩) 1 1] 53)) (.cells #[.slice (some ⟨wr.heap.size, 0, none⟩) 1 1, .int .i64 2, .slice (some ⟨wr.heap.size + 1, 0, none⟩) 1 1] 27)
    simpa using this
  · simp [Value.ownBlock] at hk
    omega
theorem PD.plt {n0 wr : World} {X B b V : Nat} {v0 v1 v2 v3 : Value} {y : Ex} {A : Option Addr} {c n : Nat} (h : PD n0 wr X B b V v0 v1 v2 v3 y A c n) : V + 2 < wr.heap.size := (Array.getElem?_eq_some_iff.1 h.hP).1
/-- It is a program. -/
theorem PD.pg {n0 wr : World} {X B b V : Nat} {v0 v1 v2 v3 : Value} {y : Ex} {A : Option Addr} {c n : Nat} (h : PD n0 wr X B b V v0 v1 v2 v3 y A c n) :
    ∃ p : Pg, p.vars.length = 1 ∧ p.ths.length = 1 ∧ p.dom = 2 ∧ PgIn wr (In_ wr) [.slice (some ⟨V, 0, none⟩) 1 1, .int .i64 2, .slice (some ⟨V + 1, 0, none⟩) 1 1] p := by
  obtain ⟨L, rfl, hO⟩ := h.row
  have hp := h.plt
  have hlt := h.lt
  obtain ⟨a, cap, e, hr⟩ := hO.row
  injection e with e1 _ e3
  subst e1 e3
  refine ⟨⟨[⟨#[120]⟩], 2, [L]⟩, rfl, rfl, rfl, some ⟨V, 0, none⟩, 1, some ⟨V + 1, 0, none⟩, 1, rfl, one_str (show V < _ by omega) (cell_of_heap h.hV), ?_, show (Lit.int .i64 2).wf = true by decide⟩
  refine one_ts (show V + 1 < _ by omega) (cell_of_heap h.hT) (hr.widen fun k hk => ?_)
  rcases hk with hk | hk
  · have := hk.2; show k < _; omega
  · exact hk.2
theorem PD.ex {n0 wr : World} {X B b V : Nat} {v0 v1 v2 v3 : Value} {y : Ex} {A : Option Addr} {c n : Nat} (h : PD n0 wr X B b V v0 v1 v2 v3 y A c n) : ExIn wr (In_ wr) [v0, v1, v2, v3] y :=
  h.xe.hy.widen fun k hk => by
    have h1 := h.plt; have h2 := h.lt; have h3 := h.le; have := hk.2
    show k < _; omega
/-- Behind what keeps all that there is. -/
theorem PD.call {n0 wr w2 : World} {X B b V : Nat} {v0 v1 v2 v3 : Value} {y : Ex} {A : Option Addr} {c n : Nat} (h : PD n0 wr X B b V v0 v1 v2 v3 y A c n) (hb : Below wr.heap.size wr w2) : PD n0 w2 X B b V v0 v1 v2 v3 y A c n := by
  have h1 := h.plt
  have h2 := h.lt
  have h3 := h.le
  obtain ⟨L, hL, hO⟩ := h.row
  have hg : wr.grownBy w2 none := ⟨hb.os, hb.tape, hb.output, hb.size, fun i hi _ => hb.block i hi⟩
  exact ⟨h.xe.next (h.xe.bl.trans (hb.mono h.xe.bl.size)) fun c hc => hb.block c (by omega), h.le, h.lt, (hb.block V (by omega)).trans h.hV, (hb.block _ (by omega)).trans h.hT, (hb.block _ h1).trans h.hP,
    ⟨L, hL, hO.kept hg (by cases (Value.slice A n c).ownBlock <;> simp) fun k hk => ⟨by have := hk.2; omega, by simp⟩⟩, h.ne⟩
/-- One statement more. -/
theorem PD.app {n0 wr w2 : World} {o : Obj} {X B b V : Nat} {v0 v1 v2 v3 : Value} {y : Ex} {A A' : Option Addr} {c c' n : Nat} {L : List St} (h : PD n0 wr X B b V v0 v1 v2 v3 y A c n)
    (hg : (wr.alloc o).grownBy w2 (Value.slice A n c).ownBlock) (hL : L.length = n + 1) (hO : StO w2 b (Ps X b) (.slice A' (n + 1) c') L) (hat : (Value.slice A' (n + 1) c').ownBlock = (Value.slice A n c).ownBlock ∨ (Value.slice A' (n + 1) c').ownBlock = some (wr.heap.size + 1)) :
    PD n0 (w2.setCell ⟨V + 1, 0, none⟩ (.slice A' (n + 1) c')) X B b V v0 v1 v2 v3 y A' c' (n + 1) := by
  have h1 := h.plt
  have h2 := h.lt
  have h3 := h.le
  have h4 := h.xe.lt
  have h5 := h.xe.le
  obtain ⟨L0, hL0, hO0⟩ := h.row
  have hown : ∀ k, (Value.slice A n c).ownBlock = some k → b ≤ k := fun k hk => (hO0.own k hk).1
  have hblk : ∀ k, k < wr.heap.size → (∀ g, (Value.slice A n c).ownBlock = some g → k ≠ g) → w2.heap[k]? = wr.heap[k]? := fun k hk hne => by
    rw [hg.block k (by simp; omega) (fun e => hne k e.symm rfl), Below.heap_alloc _ _ _ hk]
  have hsz := hg.size
  have hsz2 : wr.heap.size < w2.heap.size := by simp at hsz; omega
  have hbl : Below n0.heap.size n0 w2 := (h.xe.bl.alloc h.xe.bl.size o).grown hg (by have := h.xe.bl.size; simp; omega) fun k hk => by have := hown k hk; omega
  have hne : ∀ k, (Value.slice A' (n + 1) c').ownBlock = some k → k < V ∨ V + 2 < k := fun k hk => by
    rcases hat with e | e
    · exact h.ne k (e ▸ hk)
    · rw [e] at hk; injection hk; omega
  have hxs : ∀ k, k < B → (w2.setCell ⟨V + 1, 0, none⟩ (.slice A' (n + 1) c')).heap[k]? = wr.heap[k]? := fun k hk => by
    rw [Below.heap_setCell _ _ _ _ (show k ≠ V + 1 by omega)]
    exact hblk k (by omega) fun g hg => by have := hown g hg; omega
  have hsetg : w2.grownBy (w2.setCell ⟨V + 1, 0, none⟩ (.slice A' (n + 1) c')) (some (V + 1)) := ⟨rfl, rfl, rfl, by simp, fun i _ hi => Below.heap_setCell _ _ _ _ (by simpa using fun e : i = V + 1 => hi (by rw [e]))⟩
  refine ⟨h.xe.next (hbl.setCell (show n0.heap.size ≤ V + 1 by omega) _) hxs, h.le, h.lt, ?_, ?_, ?_, ⟨L, hL, hO.kept hsetg (.inr fun e => ?_) fun k hk => ⟨by have := hk.2; omega, by have := hk.2; intro e; injection e; omega⟩⟩, hne⟩
  · rw [Below.heap_setCell _ _ _ _ (by simp), hblk V (by omega) fun g hg => by have := h.ne g hg; omega]
    exact h.hV
  · have e : w2.heap[V + 1]? = some (.cells #[.slice A n c] 53 (0, 0)) := (hblk (V + 1) (by omega) fun g hg => by have := h.ne g hg; omega).trans h.hT
    simp [World.setCell, Array.getElem?_modify, e]
  · rw [Below.heap_setCell _ _ _ _ (by simp), hblk (V + 2) (by omega) fun g hg => by have := h.ne g hg; omega]
    exact h.hP
  · have := hne _ e; omega

/-- append of a statement, out of a new block, in a region that draws its order. -/
theorem step_stO {ops : Array Oper} {o : Oper} {a : Act} {w1 : World} (w : World) {base n : Nat} {S : Nat → Prop} {K : Act → World → Prop} {Q : Exit → Act → World → Prop} {E : Prop} (s x : Operand) (v : Value) (L : List St) (y : St) (cs : List Value) {T : TypeId} (hw1 : w1 = w.alloc (.cells cs.toArray T))
    (hgd : o.guard = none) (ho : o.op = .call { callee := .builtin .append, args := #[s, x], argTypes := #[53, 53] })
    (hsv : a.eval s = v) (hx : a.eval x = .slice (some ⟨w.heap.size, 0, none⟩) 1 1) (hn : L.length = n) (hown : StO w base S v L) (hy : StIn w S cs y) (hb : n + 1 ≤ 100000) (hbase : base ≤ w.heap.size) (hS : ∀ b, S b → b < w.heap.size ∧ some b ≠ v.ownBlock)
    (h : ∀ A c w', StO w' base S (.slice A (n + 1) c) (L ++ [y]) → (w.alloc (.cells cs.toArray T)).grownBy w' v.ownBlock → ((Value.slice A (n + 1) c).ownBlock = v.ownBlock ∨ (Value.slice A (n + 1) c).ownBlock = some (w.heap.size + 1)) → K (a.put o.dst (.slice A (n + 1) c)) w') :
    if Region.wanted o (yielded ops a.tmps) = true then Oper.wp Tryz.prog o a w1 K Q else E := by
  subst hw1
  have hlen := hy.len
  have hones := hy.ones
  have hown1 : StO (w.alloc (.cells cs.toArray T)) base S v L := hown.kept (World.grownBy_alloc w _ none) (by cases v.ownBlock <;> simp) fun b hb => ⟨(hS b hb).1, by simp⟩
  have hy1 : StIn (w.alloc (.cells cs.toArray T)) S cs y := hy.keep fun b o hb => World.cell?_alloc_lt _ _ _ (hS b hb).1
  obtain ⟨LL, rfl, h1, h2⟩ := hown1
  rw [List.length_map] at hn
  subst hn
  obtain ⟨i0, hi, hz0, hz1, hz2⟩ := info_parts_st
  refine step_app hgd s x ho Tryz.underlying53 hi hz0 hz1 hz2 rfl (by decide) v LL.length (LL.flatMap stC) hsv h1 1 cs ⟨_, _, hx, src_new (by rw [hlen])⟩ hones (by simp only [maxLen]; omega) (by omega) (by simp; omega) fun v' w' g1 g2 g3 => ?_
  obtain ⟨A', c', rfl⟩ := own_at g1
  have hk : ∀ b o, S b → w'.cell? ⟨b, o, none⟩ = (w.alloc (.cells cs.toArray T)).cell? ⟨b, o, none⟩ := fun b o hb => World.cell?_of_block (g2.block b (by have := (hS b hb).1; simp; omega) (hS b hb).2)
  refine h A' c' w' ⟨LL ++ [(y, fun i => cs[i]?.getD default)], by simp, ?_, fun z hz => ?_⟩ g2 (by simpa using g3)
  · rw [List.length_append, List.flatMap_append]
    have : [(y, fun i => cs[i]?.getD default)].flatMap stC = cs := by simp [stC_of hlen]
    rw [this]
    exact g1
  · rcases List.mem_append.1 hz with hz | hz
    · exact (h2 z hz).keep hk
    · simp only [List.mem_singleton] at hz
      subst hz
      rw [stC_of hlen]
      exact hy1.keep hk
/-- .. in a plain list of operations. -/
theorem list_stN {ops : Array Oper} {rest : List Oper} {o : Oper} {a : Act} {w : World} {base n : Nat} {S : Nat → Prop} {Q : Exit → Act → World → Prop} (s x : Operand) (v : Value) (L : List St) (y : St) (cs : List Value) {T : TypeId}
    (hgd : o.guard = none) (ho : o.op = .call { callee := .builtin .append, args := #[s, x], argTypes := #[53, 53] })
    (hsv : a.eval s = v) (hx : a.eval x = .slice (some ⟨w.heap.size, 0, none⟩) 1 1) (hn : L.length = n) (hown : StO w base S v L) (hy : StIn w S cs y) (hb : n + 1 ≤ 100000) (hbase : base ≤ w.heap.size) (hS : ∀ b, S b → b < w.heap.size ∧ some b ≠ v.ownBlock)
    (h : ∀ A c w', StO w' base S (.slice A (n + 1) c) (L ++ [y]) → (w.alloc (.cells cs.toArray T)).grownBy w' v.ownBlock → ((Value.slice A (n + 1) c).ownBlock = v.ownBlock ∨ (Value.slice A (n + 1) c).ownBlock = some (w.heap.size + 1)) → wpList Tryz.prog ops Q rest (a.put o.dst (.slice A (n + 1) c)) w') :
    wpList Tryz.prog ops Q (o :: rest) a (w.alloc (.cells cs.toArray T)) := by
  subst hn
  exact list_stO s x v L y cs hgd ho hsv hx hown hy hb hbase hS h
def fenC : List Value := [.int .i64 4, .int .i64 0, .int .i64 0, .int .i64 0, .int .i64 0, .int .u8 0, .slice none 0 0, .int .i64 0, .int .i64 0, .int .u8 0, .slice none 0 0, .slice none 0 0, .slice none 0 0]
def fenS : St := .mk 4 0 0 exZ exZ [] []
def zerC : List Value := [.int .i64 0, .int .i64 0, .int .i64 0, .int .i64 0, .int .i64 0, .int .u8 0, .slice none 0 0, .int .i64 0, .int .i64 0, .int .u8 0, .slice none 0 0, .slice none 0 0, .slice none 0 0]
def zerS : St := .mk 0 0 0 exZ exZ [] []
theorem fen_in (w : World) (S : Nat → Prop) : StIn w S fenC fenS := StIn.mk 4 0 0 _ _ _ _ _ _ _ _ exZ exZ none none 0 0 [] [] (fun _ => []) (fun _ => []) (by decide) (by decide) (by decide) (ExIn.leaf _ _ 0 0 0 (by decide) (by decide) (by decide)) (ExIn.leaf _ _ 0 0 0 (by decide) (by decide) (by decide)) Sl.nil Sl.nil (fun i hi => absurd hi (by simp)) (fun i hi => absurd hi (by simp))
theorem zer_in (w : World) (S : Nat → Prop) : StIn w S zerC zerS := StIn.mk 0 0 0 _ _ _ _ _ _ _ _ exZ exZ none none 0 0 [] [] (fun _ => []) (fun _ => []) (by decide) (by decide) (by decide) (ExIn.leaf _ _ 0 0 0 (by decide) (by decide) (by decide)) (ExIn.leaf _ _ 0 0 0 (by decide) (by decide) (by decide)) Sl.nil Sl.nil (fun i hi => absurd hi (by simp)) (fun i hi => absurd hi (by simp))

/-- A statement's thirteen cells are written. -/
def put13 (w : World) (g off : Nat) (l : List Value) : World := (List.range 13).foldl (fun w j => w.setCell ⟨g, off + j, none⟩ (l[j]?.getD undef)) w
theorem put13_eq (w : World) (g off : Nat) (c0 c1 c2 c3 c4 c5 c6 c7 c8 c9 c10 c11 c12 : Value) : put13 w g off [c0, c1, c2, c3, c4, c5, c6, c7, c8, c9, c10, c11, c12] =
    (((((((((((((w.setCell ⟨g, off, none⟩ c0).setCell ⟨g, off + 1, none⟩ c1).setCell ⟨g, off + 2, none⟩ c2).setCell ⟨g, off + 3, none⟩ c3).setCell ⟨g, off + 4, none⟩ c4).setCell ⟨g, off + 5, none⟩ c5).setCell ⟨g, off + 6, none⟩ c6).setCell ⟨g, off + 7, none⟩ c7).setCell ⟨g, off + 8, none⟩ c8).setCell ⟨g, off + 9, none⟩ c9).setCell ⟨g, off + 10, none⟩ c10).setCell ⟨g, off + 11, none⟩ c11).setCell ⟨g, off + 12, none⟩ c12) := rfl
theorem set_end (A : List Value) (z c : List Value) (hz : z.length = 13) (hc : c.length = 13) (off : Nat) (ho : A.length = off) : (List.range 13).foldl (fun (xs : List Value) j => xs.set (off + j) (c[j]?.getD undef)) (A ++ z) = A ++ c := by
  subst ho
  have key : ∀ (k : Nat) (z : List Value), z.length = 13 → k ≤ 13 → (List.range k).foldl (fun (xs : List Value) j => xs.set (A.length + j) (c[j]?.getD undef)) (A ++ z) = A ++ (c.take k ++ z.drop k) := by
    intro k
    induction k with
    | zero => intro z _ _; simp
    | succ k ih =>
      intro z hz hk
      rw [List.range_succ, List.foldl_append, ih z hz (by omega)]
      simp only [List.foldl_cons, List.foldl_nil]
      rw [List.set_append_right _ _ (by omega)]
      congr 1
      have hkc : k < c.length := by omega
      have hkz : k < z.length := by omega
      rw [show A.length + k - A.length = (c.take k).length + 0 by rw [List.length_take]; omega, List.set_append_right _ _ (by omega)]
      rw [List.take_succ_eq_append_getElem hkc, List.append_assoc]
      simp [List.getElem?_eq_getElem hkc]
      rw [List.drop_eq_getElem_cons hkz]
      rfl
  have := key 13 z hz (Nat.le_refl _)
  rw [this, List.take_of_length_le (by omega), List.drop_of_length_le (by omega), List.append_nil]
theorem ownsRow_put13 {w : World} {B n : Nat} {t : TypeId} {g cap : Nat} {xs : List Value} (h : w.ownsRow B t 13 (.slice (some ⟨g, 0, none⟩) n cap) n xs) (off : Nat) (l : List Value) :
    (put13 w g off l).ownsRow B t 13 (.slice (some ⟨g, 0, none⟩) n cap) n ((List.range 13).foldl (fun (xs : List Value) j => xs.set (off + j) (l[j]?.getD undef)) xs) ∧ w.grownBy (put13 w g off l) (some g) := by
  have key : ∀ (js : List Nat) (w : World) (xs : List Value), w.ownsRow B t 13 (.slice (some ⟨g, 0, none⟩) n cap) n xs →
      (js.foldl (fun w j => w.setCell ⟨g, off + j, none⟩ (l[j]?.getD undef)) w).ownsRow B t 13 (.slice (some ⟨g, 0, none⟩) n cap) n (js.foldl (fun (xs : List Value) j => xs.set (off + j) (l[j]?.getD undef)) xs) ∧
      w.grownBy (js.foldl (fun w j => w.setCell ⟨g, off + j, none⟩ (l[j]?.getD undef)) w) (some g) := by
    intro js
    induction js with
    | nil => intro w xs h; exact ⟨h, ⟨rfl, rfl, rfl, Nat.le_refl _, fun _ _ _ => rfl⟩⟩
    | cons j js ih =>
      intro w xs h
      have h1 := h.stored (off + j) (l[j]?.getD undef)
      have h2 := ih _ _ h1.1
      exact ⟨h2.1, ⟨h2.2.os.trans h1.2.os, h2.2.tape.trans h1.2.tape, h2.2.output.trans h1.2.output, Nat.le_trans h1.2.size h2.2.size, fun i hi hne => (h2.2.block i (Nat.lt_of_lt_of_le hi h1.2.size) hne).trans (h1.2.block i hi hne)⟩⟩
  exact key (List.range 13) w xs h
/-- The last statement of a row of the law's own is written anew. -/
theorem StO.last {w : World} {B n : Nat} {S : Nat → Prop} {A : Option Addr} {c : Nat} {L : List St} {y : St} (h : StO w B S (.slice A (n + 1) c) (L ++ [y])) (hL : L.length = n) (hS : ∀ k, S k → k < B) :
    ∃ g, A = some ⟨g, 0, none⟩ ∧ B ≤ g ∧ g < w.heap.size ∧ n + 1 ≤ c ∧ c ≤ maxLen ∧ (∀ j, j < 13 → ∃ u, w.cell? ⟨g, n * 13 + j, none⟩ = some u) ∧ (∀ j, w.frozen? ⟨g, j, none⟩ = false) ∧
      ∀ (cs : List Value) (x : St), (∀ W, StIn W S cs x) → StO (put13 w g (n * 13) cs) B S (.slice A (n + 1) c) (L ++ [x]) ∧ w.grownBy (put13 w g (n * 13) cs) (some g) := by
  obtain ⟨LL, hLL, h1, h2⟩ := h
  have hlen : LL.length = n + 1 := by
    have := congrArg List.length hLL
    simp at this
    omega
  obtain ⟨LA, z, rfl⟩ : ∃ LA z, LL = LA ++ [z] := ⟨LL.dropLast, LL.getLast (by intro e; rw [e] at hlen; simp at hlen), (List.dropLast_concat_getLast _).symm⟩
  rw [List.map_append, List.map_cons, List.map_nil] at hLL
  have hla : LA.length = n := by simpa using hlen
  obtain ⟨hL1, -⟩ := List.append_inj' hLL rfl
  rw [hlen] at h1
  have h1' := h1
  obtain ⟨hxl, h⟩ := h1'
  rcases h with ⟨e, h0⟩ | ⟨g, cap, cur, e, hb, hg, hle, hcm, hsz, htk⟩
  · omega
  simp only [Value.slice.injEq, true_and] at e
  obtain ⟨rfl, rfl⟩ := e
  have hfa : (LA.flatMap stC).length = n * 13 := by
    rw [flat_size stC 13 stC_len, hla]
  refine ⟨g, rfl, hb, (Array.getElem?_eq_some_iff.1 hg).1, hle, hcm, fun j hj => ?_, fun j => h1.frozenAt j, fun cs x hx => ?_⟩
  · have hc := h1.cellAt (n * 13 + j) (by omega)
    rw [hc, List.getElem?_eq_getElem (by rw [hxl]; omega)]
    exact ⟨_, rfl⟩
  · have hp := ownsRow_put13 h1 (n * 13) cs
    have hcl := (hx w).len
    have hk : ∀ b o, S b → (put13 w g (n * 13) cs).cell? ⟨b, o, none⟩ = w.cell? ⟨b, o, none⟩ := fun b o hb' => by
      rcases Nat.lt_or_ge b w.heap.size with hlt | hge
      · exact World.cell?_of_block (hp.2.block b hlt (by have := hS b hb'; intro e; injection e; omega))
      · have := hS b hb'
        have := (Array.getElem?_eq_some_iff.1 hg).1
        omega
    refine ⟨⟨LA ++ [(x, fun i => cs[i]?.getD default)], by simp [hL1], ?_, fun q hq => ?_⟩, hp.2⟩
    · rw [List.length_append, List.flatMap_append, hla]
      have e1 : [(x, fun i => cs[i]?.getD default)].flatMap stC = cs := by simp [stC_of hcl]
      rw [e1]
      have e2 := hp.1
      rw [List.flatMap_append, set_end (LA.flatMap stC) ([z].flatMap stC) cs (by simp [stC_len]) hcl (n * 13) hfa] at e2
      exact e2
    · rcases List.mem_append.1 hq with hq | hq
      · exact (h2 q (List.mem_append_left _ hq)).keep hk
      · simp only [List.mem_singleton] at hq
        subst hq
        rw [stC_of hcl]
        exact hx _

/-- The last statement becomes a Fence. -/
theorem PD.last {n0 wr : World} {X B b V : Nat} {v0 v1 v2 v3 : Value} {y : Ex} {A : Option Addr} {c n : Nat} (h : PD n0 wr X B b V v0 v1 v2 v3 y A c (n + 1)) :
    ∃ g, A = some ⟨g, 0, none⟩ ∧ g < wr.heap.size ∧ n + 1 ≤ c ∧ c ≤ maxLen ∧ (∀ j, j < 13 → ∃ u, wr.cell? ⟨g, n * 13 + j, none⟩ = some u) ∧ (∀ j, wr.frozen? ⟨g, j, none⟩ = false) ∧
      PD n0 (put13 wr g (n * 13) fenC) X B b V v0 v1 v2 v3 y A c (n + 1) := by
  obtain ⟨L', hL', hO⟩ := h.row
  obtain ⟨L, z, rfl⟩ : ∃ L z, L' = L ++ [z] := ⟨L'.dropLast, L'.getLast (by intro e; rw [e] at hL'; simp at hL'), (List.dropLast_concat_getLast _).symm⟩
  have hL : L.length = n := by simpa using hL'
  obtain ⟨g, rfl, h1, h2, h3, h3', h4, h5, h6⟩ := hO.last hL fun k hk => hk.2
  obtain ⟨h7, h8⟩ := h6 fenC fenS fun W => fen_in W _
  have hne := h.ne g rfl
  have p1 := h.plt
  have p2 := h.lt
  have p3 := h.le
  have p4 := h.xe.lt
  have p5 := h.xe.le
  have hblk : ∀ k, k < wr.heap.size → k ≠ g → (put13 wr g (n * 13) fenC).heap[k]? = wr.heap[k]? := fun k hk hkg => h8.block k hk (by simpa using hkg)
  exact ⟨g, rfl, h2, h3, h3', h4, h5, h.xe.next (h.xe.bl.grown h8 h.xe.bl.size fun k hk => by injection hk; omega) fun k hk => hblk k (by omega) (by omega), h.le, h.lt, (hblk V (by omega) (by omega)).trans h.hV, (hblk (V + 1) (by omega) (by omega)).trans h.hT, (hblk (V + 2) p1 (by omega)).trans h.hP,
    ⟨L ++ [fenS], by simpa using hL', h7⟩, h.ne⟩
end Go.Proofs.YtphlbbnmligadaaGreatDoor
namespace Go.Proofs.YtphlbbnmligadaaGreatDoor
open Go.RowKit

/-- All blocks but the program's. -/
def InP (Pb : Nat) (W : World) (b : Nat) : Prop := b < W.heap.size ∧ b ≠ Pb
/-- The thread's copy, whatever is written into one statement's cells. -/
def Tp (Pb : Nat) (W : World) (R : Nat → Prop) (bx off : Nat) (tv : Value) : Prop :=
  ∀ (W' : World) (cs : List Value) (x : St), (∀ b, R b → W'.heap[b]? = W.heap[b]?) → (∀ b, R b → InP Pb W' b) → InP Pb W' bx → (∀ o, o < off ∨ off + 13 ≤ o → W'.cell? ⟨bx, o, none⟩ = W.cell? ⟨bx, o, none⟩) →
    (∀ j, j < 13 → W'.cell? ⟨bx, off + j, none⟩ = cs[j]?) → StIn W' (InP Pb W') cs x → ∃ (L : List St) (a : Option Addr) (c : Nat), tv = .slice a L.length c ∧ StRow W' (InP Pb W') a L.length c L
theorem tp_box (Pb : Nat) (W : World) (R : Nat → Prop) (bx off : Nat) (a : Option Addr) {c : Nat} (hc : c ≤ maxLen) : Tp Pb W R bx off (.slice a 0 c) := fun _ _ _ _ _ _ _ _ _ =>
  ⟨[], a, c, rfl, rfl, fun _ => [], ⟨Nat.zero_le _, hc, fun h => absurd h (by simp)⟩, fun i hi => absurd hi (by simp)⟩
theorem tp_row {Pb : Nat} {W : World} {R : Nat → Prop} {tb c i : Nat} {L : List St} {C : Nat → List Value} (hn : L.length ≤ c) (hc : c ≤ maxLen) (hi : i < L.length)
    (hcell : ∀ i' j, i' < L.length → i' ≠ i → j < 13 → W.cell? ⟨tb, i' * 13 + j, none⟩ = (C i')[j]?) (hel : ∀ i' (h : i' < L.length), i' ≠ i → StIn W R (C i') L[i']) : Tp Pb W R tb (i * 13) (.slice (some ⟨tb, 0, none⟩) L.length c) := by
  intro W' cs x hk hR hbx hw hcs hx
  refine ⟨L.set i x, some ⟨tb, 0, none⟩, c, by simp, rfl, fun i' => if i' = i then cs else C i', ?_, fun i' hi' => ?_⟩
  · rw [List.length_set]
    refine ⟨hn, hc, fun _ => ⟨tb, 0, rfl, hbx, fun i' hi' j hj => ?_⟩⟩
    rw [Nat.zero_add]
    by_cases he : i' = i
    · subst he
      simp only [if_true]
      exact hcs j hj
    · simp only [if_neg he]
      rw [hw _ (by omega)]
      exact hcell i' j hi' he hj
  · have hi2 : i' < L.length := by simpa using hi'
    by_cases he : i' = i
    · subst he
      simp only [if_true, List.getElem_set_self]
      exact hx
    · simp only [if_neg he]
      rw [List.getElem_set_ne (fun e => he e.symm)]
      exact ((hel i' hi2 he).keep fun b o hb => World.cell?_of_block (hk b hb)).widen hR

/-- The other threads, and the row of all. -/
def Thr (W : World) (R : Nat → Prop) (k : Nat) (ta : Option Addr) (n ct : Nat) : Prop :=
  ∃ (T : List (List St)) (A : Nat → Option Addr) (K : Nat → Nat), T.length = n ∧ Sl W R 1 ta n ct (fun j => [.slice (A j) (T[j]?.getD []).length (K j)]) ∧ ∀ j (h : j < T.length), j ≠ k → StRow W R (A j) T[j].length (K j) T[j]
namespace Thr
variable {W W' : World} {R R' : Nat → Prop} {k : Nat} {ta : Option Addr} {n ct : Nat}
theorem keep (h : Thr W R k ta n ct) (hk : ∀ b, R b → W'.heap[b]? = W.heap[b]?) : Thr W' R k ta n ct := by
  obtain ⟨T, A, K, h1, h2, h3⟩ := h
  exact ⟨T, A, K, h1, h2.keep fun b o hb => World.cell?_of_block (hk b hb), fun j hj hne => (h3 j hj hne).keep fun b o hb => World.cell?_of_block (hk b hb)⟩
theorem widen (h : Thr W R k ta n ct) (hR : ∀ b, R b → R' b) : Thr W R' k ta n ct := by
  obtain ⟨T, A, K, h1, h2, h3⟩ := h
  exact ⟨T, A, K, h1, h2.widen hR, fun j hj hne => (h3 j hj hne).widen hR⟩
end Thr

def hdA : Value → Option Addr
  | .slice a _ _ => a
  | _ => none
def hdC : Value → Nat
  | .slice _ _ c => c
  | _ => 0
/-- One thread out of all: the others, and the row, lie elsewhere. -/
theorem TsX.pick {w : World} {lo hi ct : Nat} {ta : Option Addr} {T : List (List St)} (h : TsX w lo hi (.slice ta T.length ct) T) (k : Nat) (hk : k < T.length) :
    ∃ a c f g b off, (lo ≤ f ∧ g ≤ hi) ∧ StsX w f g (.slice a T[k].length c) T[k] ∧ Thr w (fun b => lo ≤ b ∧ b < hi ∧ (b < f ∨ g ≤ b)) k ta T.length ct ∧ ta = some ⟨b, off, none⟩ ∧ (lo ≤ b ∧ b < hi ∧ (b < f ∨ g ≤ b)) ∧
      w.cell? ⟨b, off + k, none⟩ = some (.slice a T[k].length c) := by
  obtain ⟨LL, rfl, h1, h2, F, G, h3, h4⟩ := h
  have hk' : k < LL.length := by simpa using hk
  obtain ⟨⟨p1, p2⟩, p3, p4⟩ := h3 k hk'
  have hsl : ∀ j (hj : j < LL.length), LL[j].2 = .slice (hdA LL[j].2) LL[j].1.length (hdC LL[j].2) := fun j hj => by
    obtain ⟨a, c, e⟩ := (h3 j hj).2.1.sl
    rw [e]; rfl
  have h1' := h1
  obtain ⟨hl0, hc⟩ := h1'
  rcases hc with ⟨e, h0⟩ | ⟨g, cap, cur, e, hb, hg, hle, hcm, hsz, htk⟩
  · have h0' : LL.length = 0 := h0
    omega
  simp only [Value.slice.injEq, List.length_map, true_and] at e
  obtain ⟨rfl, rfl⟩ := e
  have hgh := h2 g rfl
  have hgf : g < F k ∨ G k ≤ g := p4 g rfl
  have hcell : ∀ j (hj : j < LL.length), w.cell? ⟨g, j, none⟩ = some LL[j].2 := fun j hj => by
    have := h1.cells (g := g) rfl j LL[j].2 (by simp [hj])
    rwa [Addr.add_lit, Nat.zero_add] at this
  refine ⟨hdA LL[k].2, hdC LL[k].2, F k, G k, g, 0, ⟨p1, p2⟩, ?_, ⟨LL.map (·.1), fun j => hdA (LL[j]?.getD ([], .slice none 0 0)).2, fun j => hdC (LL[j]?.getD ([], .slice none 0 0)).2, rfl, ?_, fun j hj hne => ?_⟩, rfl, ⟨hb, hgh, hgf⟩, ?_⟩
  · simp only [List.getElem_map]
    rw [← hsl k hk']
    exact p3
  · rw [List.length_map]
    refine ⟨hle, hcm, fun _ => ⟨g, 0, rfl, ⟨hb, hgh, hgf⟩, fun j hj i hi => ?_⟩⟩
    obtain rfl : i = 0 := by omega
    rw [Nat.mul_one, Nat.add_zero, Nat.zero_add, hcell j hj]
    simp only [List.getElem?_map, List.getElem?_eq_getElem hj, Option.map_some, Option.getD_some]
    exact congrArg some (hsl j hj)
  · have hj' : j < LL.length := by simpa using hj
    obtain ⟨⟨q1, q2⟩, q3, q4⟩ := h3 j hj'
    have e := hsl j hj'
    rw [e] at q3
    simp only [List.getElem_map, List.getElem?_eq_getElem hj', Option.getD_some]
    refine q3.rw_.row'.2.widen fun b hb => ⟨Nat.le_trans q1 hb.1, Nat.lt_of_lt_of_le hb.2 q2, ?_⟩
    have hb1 := hb.1
    have hb2 := hb.2
    rcases Nat.lt_or_gt_of_ne hne with hl | hl
    · have := h4 j k hl hk'; omega
    · have := h4 k j hl hj'; omega
  · simp only [List.getElem_map]
    rw [Nat.zero_add, ← hsl k hk']
    exact hcell k hk'

/-- One statement out of a thread: its cells, and those of the others. -/
theorem StsX.pick {w : World} {lo hi c : Nat} {a : Option Addr} {L : List St} (h : StsX w lo hi (.slice a L.length c) L) :
    ∃ (xs : List Value) (C : Nat → List Value), SrcAt w 13 a L.length xs ∧ (∀ u ∈ xs, u.oneCell' = true) ∧ (∀ i j, i < L.length → j < 13 → xs[i * 13 + j]? = (C i)[j]?) ∧
      ∀ i (hi' : i < L.length), ∃ f g, (lo ≤ f ∧ g ≤ hi) ∧ StX w f g (C i) L[i] ∧ ∀ i' (h : i' < L.length), i' ≠ i → StIn w (fun b => lo ≤ b ∧ b < hi ∧ (b < f ∨ g ≤ b)) (C i') L[i'] := by
  obtain ⟨LL, rfl, h1, h2, F, G, h3, h4⟩ := h
  obtain ⟨A, c', e, hs⟩ := src_own h1
  simp only [Value.slice.injEq, List.length_map, true_and] at e
  obtain ⟨rfl, rfl⟩ := e
  have hin : ∀ y ∈ LL, StIn w (fun _ => True) (stC y) y.1 := fun y hy => by
    obtain ⟨i, hi, rfl⟩ := List.getElem_of_mem hy
    exact (h3 i hi).2.1.in_.widen fun _ _ => trivial
  refine ⟨LL.flatMap stC, fun i => (LL[i]?.map stC).getD [], by rw [List.length_map]; exact hs, stC_one hin, fun i j hi hj => ?_, fun i hi' => ?_⟩
  · have hi2 : i < LL.length := by simpa using hi
    rw [flat_at stC 13 stC_len LL i j hi2 hj]
    simp only [List.getElem?_eq_getElem hi2, Option.map_some, Option.getD_some]
  · have hi2 : i < LL.length := by simpa using hi'
    obtain ⟨⟨p1, p2⟩, p3, p4⟩ := h3 i hi2
    refine ⟨F i, G i, ⟨p1, p2⟩, ?_, fun i' h hne => ?_⟩
    · simp only [List.getElem?_eq_getElem hi2, Option.map_some, Option.getD_some, List.getElem_map]
      exact p3
    · have hi3 : i' < LL.length := by simpa using h
      obtain ⟨⟨q1, q2⟩, q3, q4⟩ := h3 i' hi3
      simp only [List.getElem?_eq_getElem hi3, Option.map_some, Option.getD_some, List.getElem_map]
      refine q3.in_.widen fun b hb => ⟨Nat.le_trans q1 hb.1, Nat.lt_of_lt_of_le hb.2 q2, ?_⟩
      have hb1 := hb.1
      have hb2 := hb.2
      rcases Nat.lt_or_gt_of_ne hne with hl | hl
      · have := h4 i' i hl hi2; omega
      · have := h4 i i' hl hi3; omega

/-- Something is spoilt: what the law's end finds. -/
def SpJ (w0 W : World) (Pb k n bx off : Nat) (ta : Option Addr) (ct : Nat) (tv : Value) : Prop :=
  ∃ (va : Option Addr) (vars : List ByteArray) (cv : Nat) (dom : Int), W.heap[Pb]? = some (.cells #[.slice va vars.length cv, .int .i64 dom, .slice ta n ct] 27 (0, 0)) ∧ (Lit.int .i64 dom).wf = true ∧
    VrIn W (InP Pb W) va vars.length cv vars ∧ Thr W (InP Pb W) k ta n ct ∧ (∃ (L : List St) (a : Option Addr) (c : Nat), tv = .slice a L.length c ∧ StRow W (InP Pb W) a L.length c L) ∧
    (∃ (u0 u1 u2 u3 : Value) (x : Ex), (W.cell? ⟨bx, off + 3, none⟩ = some u0 ∧ W.cell? ⟨bx, off + 4, none⟩ = some u1 ∧ W.cell? ⟨bx, off + 5, none⟩ = some u2 ∧ W.cell? ⟨bx, off + 6, none⟩ = some u3) ∧ ExIn W (InP Pb W) [u0, u1, u2, u3] x) ∧
    bx < W.heap.size ∧ Below w0.heap.size w0 W

theorem StIn.rows {w : World} {S : Nat → Prop} {k r v : Int} {u0 u1 u2 u3 v0 v1 v2 v3 : Value} {a b : Ex} {ta ea : Option Addr} {tc ec : Nat} {t e : List St} (wk : (Lit.int .i64 k).wf = true) (wr : (Lit.int .i64 r).wf = true) (wv : (Lit.int .i64 v).wf = true)
    (ha : ExIn w S [u0, u1, u2, u3] a) (hb : ExIn w S [v0, v1, v2, v3] b) (ht : StRow w S ta t.length tc t) (he : StRow w S ea e.length ec e) :
    StIn w S [.int .i64 k, .int .i64 r, .int .i64 v, u0, u1, u2, u3, v0, v1, v2, v3, .slice ta t.length tc, .slice ea e.length ec] (.mk k r v a b t e) := by
  obtain ⟨-, C, h1, h2⟩ := ht
  obtain ⟨-, D, h3, h4⟩ := he
  exact .mk k r v u0 u1 u2 u3 v0 v1 v2 v3 a b ta ea tc ec t e C D wk wr wv ha hb h1 h3 h2 h4

theorem strs_info : ∃ i, Tryz.prog.info? 9 = some i ∧ i.zero = some (.string ByteArray.empty) ∧ i.size = 1 ∧ i.bytes = 16 := by
  have h : (Tryz.prog.info? 9).map (fun i => (i.zero, i.size, i.bytes)) = some (some (.string ByteArray.empty), 1, 16) := by kernel_rfl
  cases hi : Tryz.prog.info? 9 with
  | none => rw [hi] at h; cases h
  | some i =>
    rw [hi] at h
    simp only [Option.map_some, Option.some.injEq, Prod.mk.injEq] at h
    exact ⟨i, rfl, h.1, h.2.1, h.2.2⟩
/-- append of names. -/
theorem list_strs {ops : Array Oper} {rest : List Oper} {o : Oper} {a : Act} {w : World} {base : Nat} {Q : Exit → Act → World → Prop} (s x : Operand) (v : Value) (n : Nat) (xs : List Value) (m : Nat) (news : List Value)
    (hgd : o.guard = none) (ho : o.op = .call { callee := .builtin .append, args := #[s, x], argTypes := #[24, 24] })
    (hsv : a.eval s = v) (hown : w.ownsRow base 9 1 v n xs) (hsrc : ∃ A c, a.eval x = .slice A m c ∧ SrcAt w 1 A m news) (h1 : ∀ u ∈ news, u.oneCell' = true) (hb : n + m ≤ 100000) (hbase : base ≤ w.heap.size)
    (h : ∀ A c w', w'.ownsRow base 9 1 (.slice A (n + m) c) (n + m) (xs ++ news) → w.grownBy w' v.ownBlock → wpList Tryz.prog ops Q rest (a.put o.dst (.slice A (n + m) c)) w') :
    wpList Tryz.prog ops Q (o :: rest) a w := by
  obtain ⟨i0, hi, hz0, hz1, hz2⟩ := strs_info
  refine list_app hgd s x ho Tryz.underlying24 hi hz0 hz1 hz2 rfl (by decide) v n xs hsv hown m news hsrc h1 (by simp only [maxLen]; omega) (by omega) hbase fun v' w' g1 g2 g3 => ?_
  obtain ⟨A', c', rfl⟩ := own_at g1
  exact h A' c' w' g1 g2
theorem VrIn.src {w : World} {S : Nat → Prop} {a : Option Addr} {c : Nat} {l : List ByteArray} (h : VrIn w S a l.length c l) : SrcAt w 1 a l.length (l.map Value.string) := by
  refine ⟨by simp, fun e => ?_, fun ad e j u hu => ?_⟩
  · rcases Nat.eq_zero_or_pos l.length with h0 | h0
    · exact h0
    · obtain ⟨b, off, e', -⟩ := h.2.at_ h0
      rw [e] at e'; cases e'
  · subst e
    have hj : j < l.length := by simpa using (List.getElem?_eq_some_iff.1 hu).1
    obtain ⟨b, off, e', -, hc⟩ := h.at_ j hj
    injection e' with e'
    subst e'
    rw [Addr.add_lit, hc, ← hu]
    simp [hj]
/-- A new row of names. -/
theorem own_vr {w : World} {B Pb c : Nat} {A : Option Addr} {l : List ByteArray} (h : w.ownsRow B 9 1 (.slice A l.length c) l.length (l.map Value.string)) (hB : Pb < B) : VrIn w (InP Pb w) A l.length c l := by
  have h' := h
  obtain ⟨_, hh⟩ := h
  rcases hh with ⟨e, h0⟩ | ⟨g, cap, cur, e, hb, hgg, hle, hcm, hsz, htk⟩
  · simp only [Value.slice.injEq] at e
    obtain ⟨rfl, -, rfl⟩ := e
    exact ⟨rfl, by omega, Nat.zero_le _, fun hp => by omega⟩
  · simp only [Value.slice.injEq, true_and] at e
    obtain ⟨rfl, rfl⟩ := e
    refine ⟨rfl, hle, hcm, fun _ => ⟨g, 0, rfl, ⟨(Array.getElem?_eq_some_iff.1 hgg).1, by omega⟩, fun i hi j hj => ?_⟩⟩
    obtain rfl : j = 0 := by omega
    have := h'.cells (g := g) rfl i (.string l[i]) (by simp [hi])
    rw [Addr.add_lit, Nat.zero_add] at this
    simpa [hi] using this

/-- Ahead of the spoiling: a statement's cells in block bx, its data in blocks lo to hi, all else elsewhere. -/
structure Fr (w0 V : World) (R : Nat → Prop) (Pb k n bx off : Nat) (va : Option Addr) (vars : List ByteArray) (cv : Nat) (dom : Int) (ta : Option Addr) (ct : Nat) (tv : Value) (lo hi : Nat) (cs : List Value) (x : St) : Prop where
  hP : V.heap[Pb]? = some (.cells #[.slice va vars.length cv, .int .i64 dom, .slice ta n ct] 27 (0, 0))
  hd : (Lit.int .i64 dom).wf = true
  vr : VrIn V R va vars.length cv vars
  th : Thr V R k ta n ct
  tp : Tp Pb V R bx off tv
  hx : StX V lo hi cs x
  win : ∀ j, j < 13 → V.cell? ⟨bx, off + j, none⟩ = cs[j]?
  fb : ∃ cur, V.heap[bx]? = some (.cells cur 56 (0, 0))
  lt : bx < V.heap.size
  r_ : ∀ b, R b → b < V.heap.size ∧ b ≠ bx ∧ b ≠ Pb ∧ (b < lo ∨ hi ≤ b)
  i_ : hi ≤ V.heap.size ∧ (bx < lo ∨ hi ≤ bx) ∧ (Pb < lo ∨ hi ≤ Pb) ∧ bx ≠ Pb
  bl : Below w0.heap.size w0 V
  lw : w0.heap.size ≤ lo ∧ w0.heap.size ≤ bx ∧ w0.heap.size ≤ Pb
namespace Fr
variable {w0 V W : World} {R : Nat → Prop} {Pb k n bx off : Nat} {va : Option Addr} {vars : List ByteArray} {cv : Nat} {dom : Int} {ta : Option Addr} {ct : Nat} {tv : Value} {lo hi : Nat} {cs : List Value} {x : St}
theorem plt (h : Fr w0 V R Pb k n bx off va vars cv dom ta ct tv lo hi cs x) : Pb < V.heap.size := (Array.getElem?_eq_some_iff.1 h.hP).1
theorem fz (h : Fr w0 V R Pb k n bx off va vars cv dom ta ct tv lo hi cs x) (o : Nat) : V.frozen? ⟨bx, o, none⟩ = false := by
  obtain ⟨_, e⟩ := h.fb
  exact unfrozen e
/-- Behind what keeps all that there is. -/
theorem grow (h : Fr w0 V R Pb k n bx off va vars cv dom ta ct tv lo hi cs x) (hb : Below V.heap.size V W) : Fr w0 W R Pb k n bx off va vars cv dom ta ct tv lo hi cs x := by
  have hk : ∀ b, b < V.heap.size → W.heap[b]? = V.heap[b]? := fun b hlt => hb.block b hlt
  have hz := hb.size
  refine ⟨(hk _ h.plt).trans h.hP, h.hd, h.vr.keep fun b o hb => World.cell?_of_block (hk b (h.r_ b hb).1), h.th.keep fun b hb => hk b (h.r_ b hb).1, ?_, h.hx.kept fun b _ hb => hk b (by have := h.i_.1; omega),
    fun j hj => (World.cell?_of_block (a := ⟨bx, off + j, none⟩) (hk bx h.lt)).trans (h.win j hj), h.fb.imp fun _ e => (hk bx h.lt).trans e, Nat.lt_of_lt_of_le h.lt hz, fun b hb => ⟨Nat.lt_of_lt_of_le (h.r_ b hb).1 hz, (h.r_ b hb).2⟩, ⟨Nat.le_trans h.i_.1 hz, h.i_.2⟩, h.bl.trans (hb.mono h.bl.size), h.lw⟩
  intro W' cs' x' h1 h2 h3 h4 h5 h6
  exact h.tp W' cs' x' (fun b hb => (h1 b hb).trans (hk b (h.r_ b hb).1)) h2 h3 (fun o ho => (h4 o ho).trans (World.cell?_of_block (a := ⟨bx, o, none⟩) (hk bx h.lt))) h5 h6
/-- All is as it was but the statement's cells, and the program's. -/
theorem spj (h : Fr w0 V R Pb k n bx off va vars cv dom ta ct tv lo hi cs x) {va' : Option Addr} {vars' : List ByteArray} {cv' : Nat} {dom' : Int} {cs' : List Value} {x' : St} (hz : V.heap.size ≤ W.heap.size) (hk : ∀ b, R b → W.heap[b]? = V.heap[b]?)
    (hw : ∀ o, o < off ∨ off + 13 ≤ o → W.cell? ⟨bx, o, none⟩ = V.cell? ⟨bx, o, none⟩) (hP : W.heap[Pb]? = some (.cells #[.slice va' vars'.length cv', .int .i64 dom', .slice ta n ct] 27 (0, 0))) (hd : (Lit.int .i64 dom').wf = true)
    (hv : VrIn W (InP Pb W) va' vars'.length cv' vars') (hwin : ∀ j, j < 13 → W.cell? ⟨bx, off + j, none⟩ = cs'[j]?) (hx : StIn W (InP Pb W) cs' x') (hB : Below w0.heap.size w0 W) : SpJ w0 W Pb k n bx off ta ct tv := by
  have hR : ∀ b, R b → InP Pb W b := fun b hb => ⟨Nat.lt_of_lt_of_le (h.r_ b hb).1 hz, (h.r_ b hb).2.2.1⟩
  have hbx : InP Pb W bx := ⟨Nat.lt_of_lt_of_le h.lt hz, h.i_.2.2.2⟩
  refine ⟨va', vars', cv', dom', hP, hd, hv, (h.th.keep hk).widen hR, h.tp W cs' x' hk hR hbx hw hwin hx, ?_, hbx.1, hB⟩
  obtain ⟨k', r', v', a', b', t', e'⟩ := x'
  obtain ⟨u0, u1, u2, u3, v0, v1, v2, v3, ta', ea', tc', ec', rfl, ha, -, -, -⟩ := hx.open_
  exact ⟨u0, u1, u2, u3, a', ⟨hwin 3 (by omega), hwin 4 (by omega), hwin 5 (by omega), hwin 6 (by omega)⟩, ha⟩
/-- .. but the statement's cells. -/
theorem set (h : Fr w0 V R Pb k n bx off va vars cv dom ta ct tv lo hi cs x) {cs' : List Value} {x' : St} (hz : V.heap.size ≤ W.heap.size) (hk : ∀ b, b < V.heap.size → b ≠ bx → (b < lo ∨ hi ≤ b) → W.heap[b]? = V.heap[b]?)
    (hw : ∀ o, o < off ∨ off + 13 ≤ o → W.cell? ⟨bx, o, none⟩ = V.cell? ⟨bx, o, none⟩) (hwin : ∀ j, j < 13 → W.cell? ⟨bx, off + j, none⟩ = cs'[j]?) (hx : StIn W (InP Pb W) cs' x') (hB : Below w0.heap.size w0 W) : SpJ w0 W Pb k n bx off ta ct tv := by
  have hk' : ∀ b, R b → W.heap[b]? = V.heap[b]? := fun b hb => hk b (h.r_ b hb).1 (h.r_ b hb).2.1 (h.r_ b hb).2.2.2
  refine h.spj hz hk' hw ((hk Pb h.plt (fun e => h.i_.2.2.2 e.symm) h.i_.2.2.1).trans h.hP) h.hd ((h.vr.keep fun b o hb => World.cell?_of_block (hk' b hb)).widen fun b hb => ⟨Nat.lt_of_lt_of_le (h.r_ b hb).1 hz, (h.r_ b hb).2.2.1⟩) hwin hx hB
/-- The statement's data, where they are kept. -/
theorem open_ (h : Fr w0 V R Pb k n bx off va vars cv dom ta ct tv lo hi cs x) : ∃ (u0 u1 u2 u3 v0 v1 v2 v3 : Value) (ta' ea' : Option Addr) (tc' ec' : Nat),
    cs = [.int .i64 x.kind, .int .i64 x.reg, .int .i64 x.var, u0, u1, u2, u3, v0, v1, v2, v3, .slice ta' x.t.length tc', .slice ea' x.e.length ec'] ∧
    ((Lit.int .i64 x.kind).wf = true ∧ (Lit.int .i64 x.reg).wf = true ∧ (Lit.int .i64 x.var).wf = true) ∧
    ∀ W : World, V.heap.size ≤ W.heap.size → (∀ b, lo ≤ b → b < hi → W.heap[b]? = V.heap[b]?) → ExIn W (InP Pb W) [u0, u1, u2, u3] x.a ∧ ExIn W (InP Pb W) [v0, v1, v2, v3] x.b ∧ StRow W (InP Pb W) ta' x.t.length tc' x.t ∧ StRow W (InP Pb W) ea' x.e.length ec' x.e := by
  obtain ⟨u0, u1, u2, u3, v0, v1, v2, v3, ta', ea', tc', ec', e, hw, hs⟩ := h.hx
  refine ⟨u0, u1, u2, u3, v0, v1, v2, v3, ta', ea', tc', ec', e, hw, fun W hz hk => ?_⟩
  obtain ⟨h1, h2, ⟨p1, p2, p3⟩, ha, hb, hT, hE⟩ := hs.kept hk
  have hi := h.i_.1
  have hpi := h.i_.2.2.1
  exact ⟨ha.widen fun b hb => ⟨by have := hb.2; omega, by have := hb.1; have := hb.2; omega⟩, hb.widen fun b hb => ⟨by have := hb.2; omega, by have := hb.1; have := hb.2; omega⟩, hT.row'.2.widen fun b hb => ⟨by have := hb.2; omega, by have := hb.1; have := hb.2; omega⟩, hE.row'.2.widen fun b hb => ⟨by have := hb.2; omega, by have := hb.1; have := hb.2; omega⟩⟩
/-- The program's domain is written. -/
theorem dom_ (h : Fr w0 V R Pb k n bx off va vars cv dom ta ct tv lo hi cs x) {m : Int} (hm : (Lit.int .i64 m).wf = true) : SpJ w0 (V.setCell ⟨Pb, 1, none⟩ (.int .i64 m)) Pb k n bx off ta ct tv := by
  have hk : ∀ b, b ≠ Pb → (V.setCell ⟨Pb, 1, none⟩ (.int .i64 m)).heap[b]? = V.heap[b]? := fun b hb => Below.heap_setCell _ _ _ _ (by simpa using hb)
  have hz : (V.setCell ⟨Pb, 1, none⟩ (.int .i64 m)).heap.size = V.heap.size := by simp
  have hP := h.hP
  have hpi := h.i_
  have hbk := hk bx hpi.2.2.2
  refine h.spj (va' := va) (vars' := vars) (cv' := cv) (dom' := m) (cs' := cs) (x' := x) (by omega) (fun b hb => hk b (h.r_ b hb).2.2.1) (fun o _ => World.cell?_of_block (a := ⟨bx, o, none⟩) hbk) (by simp [World.setCell, Array.getElem?_modify, hP]) hm
    ((h.vr.keep fun b o hb => World.cell?_of_block (hk b (h.r_ b hb).2.2.1)).widen fun b hb => ⟨by rw [hz]; exact (h.r_ b hb).1, (h.r_ b hb).2.2.1⟩) (fun j hj => (World.cell?_of_block (a := ⟨bx, off + j, none⟩) hbk).trans (h.win j hj)) ?_ (h.bl.setCell (p := ⟨Pb, 1, none⟩) h.lw.2.2 _)
  exact (h.hx.kept fun b h1 h2 => hk b (by omega)).in_.widen fun b hb => ⟨by have := hb.2; omega, by have := hb.1; have := hb.2; omega⟩
/-- The program's names are put anew. -/
theorem vars_ (h : Fr w0 V R Pb k n bx off va vars cv dom ta ct tv lo hi cs x) (hb : Below V.heap.size V W) {A : Option Addr} {c : Nat} {vars' : List ByteArray} (hv : W.ownsRow V.heap.size 9 1 (.slice A vars'.length c) vars'.length (vars'.map Value.string)) :
    SpJ w0 (W.setCell ⟨Pb, 0, none⟩ (.slice A vars'.length c)) Pb k n bx off ta ct tv := by
  have hF := h.grow hb
  have hp := h.plt
  have hk : ∀ b, b ≠ Pb → (W.setCell ⟨Pb, 0, none⟩ (.slice A vars'.length c)).heap[b]? = W.heap[b]? := fun b hb => Below.heap_setCell _ _ _ _ (by simpa using hb)
  have hz : (W.setCell ⟨Pb, 0, none⟩ (.slice A vars'.length c)).heap.size = W.heap.size := by simp
  have hP := hF.hP
  have hpi := hF.i_
  have hbk := hk bx hpi.2.2.2
  have hv2 := own_vr hv hp
  refine hF.spj (va' := A) (vars' := vars') (cv' := c) (dom' := dom) (cs' := cs) (x' := x) (by omega) (fun b hb => hk b (hF.r_ b hb).2.2.1) (fun o _ => World.cell?_of_block (a := ⟨bx, o, none⟩) hbk) (by simp [World.setCell, Array.getElem?_modify, hP]) hF.hd
    ((hv2.keep fun b o hb => World.cell?_of_block (hk b hb.2)).widen fun b hb => ⟨by rw [hz]; exact hb.1, hb.2⟩) (fun j hj => (World.cell?_of_block (a := ⟨bx, off + j, none⟩) hbk).trans (hF.win j hj)) ?_ (hF.bl.setCell (p := ⟨Pb, 0, none⟩) hF.lw.2.2 _)
  exact (hF.hx.kept fun b h1 h2 => hk b (by omega)).in_.widen fun b hb => ⟨by have := hb.2; omega, by have := hb.1; have := hb.2; omega⟩
/-- Cells of the statement are written. -/
theorem put (h : Fr w0 V R Pb k n bx off va vars cv dom ta ct tv lo hi cs x) (l : List (Nat × Value)) (hl : ∀ p ∈ l, p.1 < 13) {cs' : List Value} {x' : St} (hW : W = l.foldl (fun w p => w.setCell ⟨bx, off + p.1, none⟩ p.2) V)
    (hc : cs' = l.foldl (fun c p => c.set p.1 p.2) cs) (hx : V.heap.size = W.heap.size → (∀ b, b ≠ bx → W.heap[b]? = V.heap[b]?) → StIn W (InP Pb W) cs' x') : SpJ w0 W Pb k n bx off ta ct tv := by
  have key : ∀ (l : List (Nat × Value)) (V : World) (cs : List Value), (∀ p ∈ l, p.1 < 13) → cs.length = 13 → bx < V.heap.size → (∀ j, j < 13 → V.cell? ⟨bx, off + j, none⟩ = cs[j]?) → w0.heap.size ≤ bx → Below w0.heap.size w0 V →
      let W := l.foldl (fun w p => w.setCell ⟨bx, off + p.1, none⟩ p.2) V
      W.heap.size = V.heap.size ∧ (∀ b, b ≠ bx → W.heap[b]? = V.heap[b]?) ∧ (∀ o, o < off ∨ off + 13 ≤ o → W.cell? ⟨bx, o, none⟩ = V.cell? ⟨bx, o, none⟩) ∧ (∀ j, j < 13 → W.cell? ⟨bx, off + j, none⟩ = (l.foldl (fun c p => c.set p.1 p.2) cs)[j]?) ∧ Below w0.heap.size w0 W := by
    intro l
    induction l with
    | nil => intro V cs _ _ _ hw _ hB; exact ⟨rfl, fun _ _ => rfl, fun _ _ => rfl, hw, hB⟩
    | cons p l ih =>
      intro V cs hl hlen hlt hw hw0 hB
      have hp := hl p (by simp)
      have hsz : (V.setCell ⟨bx, off + p.1, none⟩ p.2).heap.size = V.heap.size := by simp
      have hcell : ∀ j, j < 13 → (V.setCell ⟨bx, off + p.1, none⟩ p.2).cell? ⟨bx, off + j, none⟩ = (cs.set p.1 p.2)[j]? := fun j hj => by
        by_cases he : j = p.1
        · subst he
          have hold := hw p.1 hp
          rw [List.getElem?_eq_getElem (show p.1 < cs.length by omega)] at hold
          rw [List.getElem?_set_self (by omega)]
          exact World.cell?_setCell_same _ _ _ hold
        · rw [World.cell?_setCell_other _ _ _ _ (by intro e; injection e; omega), List.getElem?_set_ne (fun e => he e.symm)]
          exact hw j hj
      obtain ⟨i1, i2, i3, i4, i5⟩ := ih (V.setCell ⟨bx, off + p.1, none⟩ p.2) (cs.set p.1 p.2) (fun q hq => hl q (by simp [hq])) (by simpa using hlen) (by omega) hcell hw0 (hB.setCell (p := ⟨bx, off + p.1, none⟩) hw0 _)
      exact ⟨i1.trans hsz, fun b hb => (i2 b hb).trans (Below.heap_setCell _ _ _ _ (by simpa using hb)), fun o ho => (i3 o ho).trans (World.cell?_setCell_other _ _ _ _ (by intro e; injection e; omega)), i4, i5⟩
  have hlen := h.hx.len
  obtain ⟨i1, i2, i3, i4, i5⟩ := key l V cs hl hlen h.lt h.win h.lw.2.1 h.bl
  rw [← hW] at i1 i2 i3 i4 i5
  rw [← hc] at i4
  exact h.set (by omega) (fun b _ hb _ => i2 b hb) i3 i4 (hx i1.symm i2) i5
end Fr

/-- Ahead of the spoiling, in a thread's copy: statement i. -/
theorem fr_row {w0 w2 W1 W2 : World} {k n i : Nat} {va : Option Addr} {vars : List ByteArray} {cv : Nat} {dom : Int} {ta : Option Addr} {ct n0 lo hi tn c : Nat} {tt : Nat} {L : List St} {xs : List Value} {C : Nat → List Value}
    (hP : W2.heap[w2.heap.size]? = some (.cells #[.slice va vars.length cv, .int .i64 dom, .slice ta n ct] 27 (0, 0))) (hd : (Lit.int .i64 dom).wf = true) (hv : VrIn w2 (Iv lo n0) va vars.length cv vars) (hn0 : n0 ≤ hi) (hlo : w0.heap.size ≤ lo) (hl0 : lo ≤ n0) (hhi : hi ≤ w2.heap.size)
    {f g : Nat} (hf : n0 ≤ f) (hg : g ≤ hi) (hth : Thr w2 (fun b => n0 ≤ b ∧ b < hi ∧ (b < f ∨ g ≤ b)) k ta n ct) {f2 g2 : Nat} (hf2 : f ≤ f2) (hg2 : g2 ≤ g) (hx : StX w2 f2 g2 (C i) (L[i]?.getD (.mk 0 0 0 exZ exZ [] [])))
    (hel : ∀ i' (h : i' < L.length), i' ≠ i → StIn w2 (fun b => f ≤ b ∧ b < g ∧ (b < f2 ∨ g2 ≤ b)) (C i') L[i']) (hxs : ∀ i j, i < L.length → j < 13 → xs[i * 13 + j]? = (C i)[j]?) (hi : i < L.length) (htn : tn = L.length)
    (hown : W1.ownsRow (w2.heap.size + 1) 56 13 (.slice (some ⟨tt, 0, none⟩) tn c) tn xs) (hb1 : Below w2.heap.size w2 W1) (hb2 : Below W1.heap.size W1 W2) (hb : Below w0.heap.size w0 w2) :
    ∃ R, Fr w0 W2 R w2.heap.size k n tt (i * 13) va vars cv dom ta ct (.slice (some ⟨tt, 0, none⟩) tn c) f2 g2 (C i) L[i] := by
  subst htn
  have hown' := hown
  obtain ⟨hl, hh⟩ := hown
  rcases hh with ⟨e, h0⟩ | ⟨g', cap, cur, e, hbb, hgg, hle, hcm, hsz, htk⟩
  · cases e
  simp only [Value.slice.injEq, Option.some.injEq, Addr.mk.injEq, and_true, true_and] at e
  obtain ⟨rfl, rfl⟩ := e
  have hk2 : ∀ b, b < w2.heap.size → W2.heap[b]? = w2.heap[b]? := fun b hlt => (hb2.block b (by have := hb1.size; omega)).trans (hb1.block b hlt)
  have htt : tt < W1.heap.size := (Array.getElem?_eq_some_iff.1 hgg).1
  have hcell : ∀ q u, xs[q]? = some u → W2.cell? ⟨tt, q, none⟩ = some u := fun q u hq => by
    have := hown'.cells (g := tt) rfl q u hq
    rw [Addr.add_lit, Nat.zero_add] at this
    exact (World.cell?_of_block (a := ⟨tt, q, none⟩) (hb2.block tt htt)).trans this
  have hwin : ∀ i' j, i' < L.length → j < 13 → W2.cell? ⟨tt, i' * 13 + j, none⟩ = (C i')[j]? := fun i' j hi' hj => by
    have h1 := hxs i' j hi' hj
    have hlt : i' * 13 + j < xs.length := by omega
    rw [List.getElem?_eq_getElem hlt] at h1
    rw [← h1]
    exact hcell _ _ (List.getElem?_eq_getElem hlt)
  rw [List.getElem?_eq_getElem hi, Option.getD_some] at hx
  have hz1 := hb1.size
  have hz2 := hb2.size
  refine ⟨fun b => b < w2.heap.size ∧ lo ≤ b ∧ (b < f2 ∨ g2 ≤ b), hP, hd, (hv.keep fun b o hb => World.cell?_of_block (hk2 b (by have := hb.2; omega))).widen fun b hb => ⟨by have := hb.2; omega, hb.1, by have := hb.2; omega⟩,
    (hth.keep fun b hb => hk2 b (by omega)).widen fun b hb => ⟨by omega, by omega, by omega⟩, ?_, hx.kept fun b _ hb => hk2 b (by omega), fun j hj => hwin i j hi hj, ⟨_, (hb2.block tt htt).trans hgg⟩, by omega, fun b hb => ⟨by omega, by omega, by omega, hb.2.2⟩,
    ⟨by omega, by omega, by omega, by omega⟩, hb.trans ((hb1.mono (Nat.le_trans hb.size (Nat.le_refl _))).trans (hb2.mono (by have := hb.size; omega))), ⟨by omega, by have := hb.size; omega, hb.size⟩⟩
  · exact tp_row hle hcm hi (fun i' j hi' _ hj => hwin i' j hi' hj) fun i' h hne => ((hel i' h hne).keep fun b o hb => World.cell?_of_block (hk2 b (by omega))).widen fun b hb => ⟨by omega, by omega, hb.2.2⟩
/-- .. where the thread is empty: a statement of the law's own. -/
theorem fr_box {w0 w2 W1 W2 : World} {k n : Nat} {va : Option Addr} {vars : List ByteArray} {cv : Nat} {dom : Int} {ta ta' : Option Addr} {ct n0 lo hi c : Nat}
    (hP : W2.heap[w2.heap.size]? = some (.cells #[.slice va vars.length cv, .int .i64 dom, .slice ta n ct] 27 (0, 0))) (hd : (Lit.int .i64 dom).wf = true) (hv : VrIn w2 (Iv lo n0) va vars.length cv vars) (hn0 : n0 ≤ hi) (_hlo : w0.heap.size ≤ lo) (hl0 : lo ≤ n0) (hhi : hi ≤ w2.heap.size)
    {f g : Nat} (hth : Thr w2 (fun b => n0 ≤ b ∧ b < hi ∧ (b < f ∨ g ≤ b)) k ta n ct) (hc : c ≤ maxLen) (hb1 : Below w2.heap.size w2 W1) (hz1 : w2.heap.size < W1.heap.size)
    (hW2 : W2 = W1.alloc (.cells #[.int .i64 4, .int .i64 0, .int .i64 0, .int .i64 0, .int .i64 0, .int .u8 0, .slice none 0 0, .int .i64 0, .int .i64 0, .int .u8 0, .slice none 0 0, .slice none 0 0, .slice none 0 0] 56)) (hb : Below w0.heap.size w0 w2) :
    ∃ R, Fr w0 W2 R w2.heap.size k n W1.heap.size 0 va vars cv dom ta ct (.slice ta' 0 c) W1.heap.size W1.heap.size
      [.int .i64 4, .int .i64 0, .int .i64 0, .int .i64 0, .int .i64 0, .int .u8 0, .slice none 0 0, .int .i64 0, .int .i64 0, .int .u8 0, .slice none 0 0, .slice none 0 0, .slice none 0 0] (.mk 4 0 0 exZ exZ [] []) := by
  have hb2 : Below W1.heap.size W1 W2 := by subst hW2; exact (Below.refl _ _).alloc (Nat.le_refl _) _
  have hbx : W2.heap[W1.heap.size]? = some (.cells #[.int .i64 4, .int .i64 0, .int .i64 0, .int .i64 0, .int .i64 0, .int .u8 0, .slice none 0 0, .int .i64 0, .int .i64 0, .int .u8 0, .slice none 0 0, .slice none 0 0, .slice none 0 0] 56 (0, 0)) := by subst hW2; exact heap_alloc_new W1 _
  have hz2 : W2.heap.size = W1.heap.size + 1 := by subst hW2; simp
  clear hW2
  have hk2 : ∀ b, b < w2.heap.size → W2.heap[b]? = w2.heap[b]? := fun b hlt => (hb2.block b (by omega)).trans (hb1.block b hlt)
  refine ⟨fun b => b < w2.heap.size ∧ lo ≤ b, hP, hd, (hv.keep fun b o hb => World.cell?_of_block (hk2 b (by have := hb.2; omega))).widen fun b hb => ⟨by have := hb.2; omega, hb.1⟩,
    (hth.keep fun b hb => hk2 b (by omega)).widen fun b hb => ⟨by omega, by omega⟩, tp_box _ _ _ _ _ _ hc, ?_, fun j hj => ?_, ⟨_, hbx⟩, by omega, fun b hb => ⟨by omega, by omega, by omega, by omega⟩,
    ⟨by omega, by omega, by omega, by omega⟩, hb.trans ((hb1.mono (Nat.le_trans hb.size (Nat.le_refl _))).trans (hb2.mono (by have := hb.size; omega))), ⟨by have := hb.size; omega, by have := hb.size; omega, hb.size⟩⟩
  · exact ⟨_, _, _, _, _, _, _, _, none, none, 0, 0, rfl, ⟨by decide, by decide, by decide⟩, W1.heap.size, W1.heap.size, ⟨by omega, by omega, by omega⟩, ExIn.leaf _ _ 0 0 0 (by decide) (by decide) (by decide), ExIn.leaf _ _ 0 0 0 (by decide) (by decide) (by decide), Rw.nil_, Rw.nil_⟩
  · rw [Nat.zero_add]
    simp [World.cell?, hbx]

/-- append of threads. -/
theorem list_ths {ops : Array Oper} {rest : List Oper} {o : Oper} {a : Act} {w : World} {base : Nat} {Q : Exit → Act → World → Prop} (s x : Operand) (m : Nat) (news : List Value)
    (hgd : o.guard = none) (ho : o.op = .call { callee := .builtin .append, args := #[s, x], argTypes := #[25, 25] })
    (hsv : a.eval s = .slice none 0 0) (hsrc : ∃ A c, a.eval x = .slice A m c ∧ SrcAt w 1 A m news) (h1 : ∀ u ∈ news, u.oneCell' = true) (hb : m ≤ 100000) (hbase : base ≤ w.heap.size)
    (h : ∀ A c w', w'.ownsRow base 53 1 (.slice A m c) m news → w.grownBy w' none → wpList Tryz.prog ops Q rest (a.put o.dst (.slice A m c)) w') :
    wpList Tryz.prog ops Q (o :: rest) a w := by
  obtain ⟨i0, hi, hz0, hz1, hz2⟩ := tssl_info
  refine list_app hgd s x ho Tryz.underlying25 hi hz0 hz1 hz2 rfl (by decide) (.slice none 0 0) 0 [] hsv (World.ownsRow_nil _ _ _ _) m news hsrc h1 (by simp only [maxLen]; omega) (by omega) hbase fun v' w' g1 g2 g3 => ?_
  rw [Nat.zero_add, List.nil_append] at g1
  obtain ⟨A', c', rfl⟩ := own_at g1
  exact h A' c' w' g1 g2
/-- The row of threads is copied, and one of them put into the copy. -/
theorem Thr.fin {W : World} {Pb k n ct tb toff : Nat} (h : Thr W (InP Pb W) k (some ⟨tb, toff, none⟩) n ct) (hk : k < n) :
    ∃ xs : List Value, SrcAt W 1 (some ⟨tb, toff, none⟩) n xs ∧ (∀ u ∈ xs, u.oneCell' = true) ∧ ∀ (W1 : World) (A1 : Option Addr) (c1 : Nat), W.grownBy W1 none → W1.ownsRow W.heap.size 53 1 (.slice A1 n c1) n xs →
      ∃ g, A1 = some ⟨g, 0, none⟩ ∧ W.heap.size ≤ g ∧ g < W1.heap.size ∧ (∃ u, W1.cell? ⟨g, k, none⟩ = some u) ∧ (∀ j, W1.frozen? ⟨g, j, none⟩ = false) ∧ n ≤ c1 ∧ c1 ≤ maxLen ∧
        ∀ (W2 : World) (a : Option Addr) (c : Nat) (L : List St), (∀ b, b < W.heap.size → b ≠ Pb → W2.heap[b]? = W1.heap[b]?) → (∀ j, j ≠ k → W2.cell? ⟨g, j, none⟩ = W1.cell? ⟨g, j, none⟩) → W2.cell? ⟨g, k, none⟩ = some (.slice a L.length c) → StRow W2 (In_ W2) a L.length c L → W1.heap.size ≤ W2.heap.size →
          ∃ T' : List (List St), T'.length = n ∧ TsIn W2 (In_ W2) (some ⟨g, 0, none⟩) n c1 T' := by
  obtain ⟨T, A, K, hT, hSl, hrows⟩ := h
  subst hT
  have hgl : ∀ j, j < T.length → ((List.range T.length).map fun j => Value.slice (A j) (T[j]?.getD []).length (K j))[j]? = some (.slice (A j) (T[j]?.getD []).length (K j)) := fun j hj => by simp [hj]
  refine ⟨(List.range T.length).map fun j => .slice (A j) (T[j]?.getD []).length (K j), ⟨by simp, (fun e => by cases e), fun ad e j u hu => ?_⟩, fun u hu => ?_, fun W1 A1 c1 hg ho => ?_⟩
  · injection e with e
    subst e
    have hj : j < T.length := by
      have := (List.getElem?_eq_some_iff.1 hu).1
      simpa using this
    rw [hgl j hj] at hu
    obtain ⟨b, off, e, hb, hc⟩ := hSl.at_ (by omega)
    simp only [Option.some.injEq, Addr.mk.injEq, and_true] at e
    obtain ⟨rfl, rfl⟩ := e
    have := hc j hj 0 (by omega)
    rw [Addr.add_lit, ← hu]
    simpa using this
  · obtain ⟨j, -, rfl⟩ := List.mem_map.1 hu
    rfl
  · have ho' := ho
    obtain ⟨hl, hh⟩ := ho'
    rcases hh with ⟨e, h0⟩ | ⟨g, cap, cur, e, hb, hgg, hle, hcm, hsz, htk⟩
    · have h0' : T.length = 0 := h0
      omega
    simp only [Value.slice.injEq, true_and] at e
    obtain ⟨rfl, rfl⟩ := e
    have hcell : ∀ j, j < T.length → W1.cell? ⟨g, j, none⟩ = some (.slice (A j) (T[j]?.getD []).length (K j)) := fun j hj => by
      have := ho.cells (g := g) rfl j _ (hgl j hj)
      rwa [Addr.add_lit, Nat.zero_add] at this
    refine ⟨g, rfl, hb, (Array.getElem?_eq_some_iff.1 hgg).1, ⟨_, hcell k hk⟩, fun j => unfrozen hgg, hle, hcm, fun W2 a c L hk2 hcj hck hrow hz => ?_⟩
    have hlt : g < W2.heap.size := Nat.lt_of_lt_of_le (Array.getElem?_eq_some_iff.1 hgg).1 hz
    refine ⟨T.set k L, by simp, by simp, fun j => if j = k then a else A j, fun j => if j = k then c else K j, ?_, fun j hj => ?_⟩
    · rw [List.length_set]
      refine ⟨hle, hcm, fun _ => ⟨g, 0, rfl, hlt, fun j hj i hi => ?_⟩⟩
      obtain rfl : i = 0 := by omega
      rw [Nat.mul_one, Nat.add_zero, Nat.zero_add]
      by_cases he : j = k
      · subst he
        simp only [if_true, List.getElem?_set_self hj, Option.getD_some]
        exact hck
      · simp only [if_neg he]
        rw [hcj j he, hcell j hj, List.getElem?_set_ne (fun e => he e.symm)]
        rfl
    · have hj' : j < T.length := by simpa using hj
      by_cases he : j = k
      · subst he
        simp only [if_true, List.getElem_set_self]
        exact hrow
      · simp only [if_neg he]
        rw [List.getElem_set_ne (fun e => he e.symm)]
        exact ((hrows j hj' he).keep fun b o hb => World.cell?_of_block ((hk2 b hb.1 hb.2).trans (hg.block b hb.1 (by simp)))).widen fun b hb => by have := hb.1; have := hg.size; show b < _; omega

/-- The program, its row of threads put anew. -/
theorem sp_fin {w0 W W1 W3 : World} {Pb k n bx off gg c2 c1 ct cv : Nat} {va A1 ta : Option Addr} {vars : List ByteArray} {dom : Int} {m : Nat} {L : List St} {uk u0 u1 u2 u3 : Value} {x : Ex}
    (hP1 : W1.heap[Pb]? = some (.cells #[.slice va vars.length cv, .int .i64 dom, .slice ta n ct] 27 (0, 0))) (hg : W.grownBy W1 none) (hpl : Pb < W.heap.size) (hW3 : (W1.setCell ⟨Pb, 2, none⟩ (.slice (some ⟨gg, 0, none⟩) n c2)).setCell ⟨gg, k, none⟩ (.slice A1 m c1) = W3)
    (hgW : W.heap.size ≤ gg) (hgl : gg < W1.heap.size) (hck : W1.cell? ⟨gg, k, none⟩ = some uk)
    (hT : ∀ (W2 : World) (a : Option Addr) (c : Nat) (L : List St), (∀ b, b < W.heap.size → b ≠ Pb → W2.heap[b]? = W1.heap[b]?) → (∀ j, j ≠ k → W2.cell? ⟨gg, j, none⟩ = W1.cell? ⟨gg, j, none⟩) → W2.cell? ⟨gg, k, none⟩ = some (.slice a L.length c) → StRow W2 (In_ W2) a L.length c L → W1.heap.size ≤ W2.heap.size →
          ∃ T' : List (List St), T'.length = n ∧ TsIn W2 (In_ W2) (some ⟨gg, 0, none⟩) n c2 T')
    (hrow : StRow W (InP Pb W) A1 L.length c1 L) (hm : m = L.length) (hv : VrIn W (InP Pb W) va vars.length cv vars) (hd : (Lit.int .i64 dom).wf = true) (hx : ExIn W (InP Pb W) [u0, u1, u2, u3] x)
    (he : W.cell? ⟨bx, off + 3, none⟩ = some u0 ∧ W.cell? ⟨bx, off + 4, none⟩ = some u1 ∧ W.cell? ⟨bx, off + 5, none⟩ = some u2 ∧ W.cell? ⟨bx, off + 6, none⟩ = some u3) (hbx : bx < W.heap.size) (hB : Below w0.heap.size w0 W) (hw0 : w0.heap.size ≤ Pb) :
    ∃ T' : List (List St), T'.length = n ∧ PgIn W3 (In_ W3) [.slice va vars.length cv, .int .i64 dom, .slice (some ⟨gg, 0, none⟩) n c2] ⟨vars, dom, T'⟩ ∧ ExIn W3 (In_ W3) [u0, u1, u2, u3] x ∧
      (W3.cell? ⟨Pb, 0, none⟩ = some (.slice va vars.length cv) ∧ W3.cell? ⟨Pb, 1, none⟩ = some (.int .i64 dom) ∧ W3.cell? ⟨Pb, 2, none⟩ = some (.slice (some ⟨gg, 0, none⟩) n c2)) ∧
      (W3.cell? ⟨bx, off + 3, none⟩ = some u0 ∧ W3.cell? ⟨bx, off + 4, none⟩ = some u1 ∧ W3.cell? ⟨bx, off + 5, none⟩ = some u2 ∧ W3.cell? ⟨bx, off + 6, none⟩ = some u3) ∧ Below w0.heap.size w0 W3 ∧ Pb < W3.heap.size ∧ bx < W3.heap.size := by
  subst hm
  have hz1 := hg.size
  have hz : W3.heap.size = W1.heap.size := by subst hW3; simp
  have hne : Pb ≠ gg := by omega
  have hk1 : ∀ b, b ≠ Pb → b ≠ gg → W3.heap[b]? = W1.heap[b]? := fun b h1 h2 => by
    subst hW3
    rw [Below.heap_setCell _ _ _ _ (by simpa using h2), Below.heap_setCell _ _ _ _ (by simpa using h1)]
  have hk : ∀ b, b < W.heap.size → b ≠ Pb → W3.heap[b]? = W.heap[b]? := fun b hb hbp => (hk1 b hbp (by omega)).trans (hg.block b hb (by simp))
  have hlt : ∀ b, InP Pb W b → In_ W3 b := fun b hb => by have := hb.1; show b < _; omega
  have hr3 : StRow W3 (In_ W3) A1 L.length c1 L := (hrow.keep fun b o hb => World.cell?_of_block (hk b hb.1 hb.2)).widen hlt
  have hgk : W3.cell? ⟨gg, k, none⟩ = some (.slice A1 L.length c1) := by
    subst hW3
    exact World.cell?_setCell_same _ _ _ ((World.cell?_setCell_other _ _ _ _ (by intro e; injection e; omega)).trans hck)
  have hgj : ∀ j, j ≠ k → W3.cell? ⟨gg, j, none⟩ = W1.cell? ⟨gg, j, none⟩ := fun j hj => by
    subst hW3
    rw [World.cell?_setCell_other _ _ _ _ (by intro e; injection e; omega), World.cell?_setCell_other _ _ _ _ (by intro e; injection e; omega)]
  obtain ⟨T', hT1, hT2⟩ := hT W3 A1 c1 L (fun b hb hbp => hk1 b hbp (by omega)) hgj hgk hr3 (by omega)
  have hP3 : W3.heap[Pb]? = some (.cells #[.slice va vars.length cv, .int .i64 dom, .slice (some ⟨gg, 0, none⟩) n c2] 27 (0, 0)) := by
    subst hW3
    rw [Below.heap_setCell _ _ _ _ (by simpa using hne)]
    simp [World.setCell, Array.getElem?_modify, hP1]
  have hcb : ∀ o u, o ≠ 2 → W.cell? ⟨bx, o, none⟩ = some u → W3.cell? ⟨bx, o, none⟩ = some u := fun o u ho hu => by
    subst hW3
    rw [World.cell?_setCell_other _ _ _ _ (by intro e; injection e; omega), World.cell?_setCell_other _ _ _ _ (by intro e; injection e; omega)]
    exact (World.cell?_of_block (a := ⟨bx, o, none⟩) (hg.block bx hbx (by simp))).trans hu
  have hBl : Below w0.heap.size w0 W3 := by
    subst hW3
    exact (((hB.trans ⟨hg.os, hg.tape, hg.output, hg.size, fun i hi => hg.block i (by have := hB.size; omega) (by simp)⟩).setCell (p := ⟨Pb, 2, none⟩) hw0 _).setCell (p := ⟨gg, k, none⟩) (show w0.heap.size ≤ gg by omega) _)
  refine ⟨T', hT1, ⟨va, cv, some ⟨gg, 0, none⟩, c2, by rw [hT1], (hv.keep fun b o hb => World.cell?_of_block (hk b hb.1 hb.2)).widen hlt, by show TsIn _ _ _ T'.length _ _; rw [hT1]; exact hT2, hd⟩, (hx.keep fun b o hb => World.cell?_of_block (hk b hb.1 hb.2)).widen hlt,
    ⟨cell_of_heap hP3, cell_of_heap hP3, cell_of_heap hP3⟩, ⟨hcb _ _ (by omega) he.1, hcb _ _ (by omega) he.2.1, hcb _ _ (by omega) he.2.2.1, hcb _ _ (by omega) he.2.2.2⟩, hBl, by omega, by omega⟩

/-- The last statement of a row is written anew; what the others hold lies in other blocks. -/
theorem StO.last2 {w : World} {B n : Nat} {S : Nat → Prop} {A : Option Addr} {c : Nat} {L : List St} {y : St} (h : StO w B S (.slice A (n + 1) c) (L ++ [y])) (hL : L.length = n) (hS : ∀ k, S k → k < w.heap.size ∧ some k ≠ (Value.slice A (n + 1) c).ownBlock) :
    ∃ g, A = some ⟨g, 0, none⟩ ∧ B ≤ g ∧ g < w.heap.size ∧ n + 1 ≤ c ∧ c ≤ maxLen ∧ (∀ j, j < 13 → ∃ u, w.cell? ⟨g, n * 13 + j, none⟩ = some u) ∧ (∀ j, w.frozen? ⟨g, j, none⟩ = false) ∧
      ∀ (cs : List Value) (x : St), (∀ W, StIn W S cs x) → StO (put13 w g (n * 13) cs) B S (.slice A (n + 1) c) (L ++ [x]) ∧ w.grownBy (put13 w g (n * 13) cs) (some g) := by
  obtain ⟨LL, hLL, h1, h2⟩ := h
  have hlen : LL.length = n + 1 := by
    have := congrArg List.length hLL
    simp at this
    omega
  obtain ⟨LA, z, rfl⟩ : ∃ LA z, LL = LA ++ [z] := ⟨LL.dropLast, LL.getLast (by intro e; rw [e] at hlen; simp at hlen), (List.dropLast_concat_getLast _).symm⟩
  rw [List.map_append, List.map_cons, List.map_nil] at hLL
  have hla : LA.length = n := by simpa using hlen
  obtain ⟨hL1, -⟩ := List.append_inj' hLL rfl
  rw [hlen] at h1
  have h1' := h1
  obtain ⟨hxl, h⟩ := h1'
  rcases h with ⟨e, h0⟩ | ⟨g, cap, cur, e, hb, hg, hle, hcm, hsz, htk⟩
  · omega
  simp only [Value.slice.injEq, true_and] at e
  obtain ⟨rfl, rfl⟩ := e
  have hfa : (LA.flatMap stC).length = n * 13 := by
    rw [flat_size stC 13 stC_len, hla]
  refine ⟨g, rfl, hb, (Array.getElem?_eq_some_iff.1 hg).1, hle, hcm, fun j hj => ?_, fun j => h1.frozenAt j, fun cs x hx => ?_⟩
  · have hc := h1.cellAt (n * 13 + j) (by omega)
    rw [hc, List.getElem?_eq_getElem (by rw [hxl]; omega)]
    exact ⟨_, rfl⟩
  · have hp := ownsRow_put13 h1 (n * 13) cs
    have hcl := (hx w).len
    have hk : ∀ b o, S b → (put13 w g (n * 13) cs).cell? ⟨b, o, none⟩ = w.cell? ⟨b, o, none⟩ := fun b o hb' => World.cell?_of_block (hp.2.block b (hS b hb').1 (hS b hb').2)
    refine ⟨⟨LA ++ [(x, fun i => cs[i]?.getD default)], by simp [hL1], ?_, fun q hq => ?_⟩, hp.2⟩
    · rw [List.length_append, List.flatMap_append, hla]
      have e1 : [(x, fun i => cs[i]?.getD default)].flatMap stC = cs := by simp [stC_of hcl]
      rw [e1]
      have e2 := hp.1
      rw [List.flatMap_append, set_end (LA.flatMap stC) ([z].flatMap stC) cs (by simp [stC_len]) hcl (n * 13) hfa] at e2
      exact e2
    · rcases List.mem_append.1 hq with hq | hq
      · exact (h2 q (List.mem_append_left _ hq)).keep hk
      · simp only [List.mem_singleton] at hq
        subst hq
        rw [stC_of hcl]
        exact hx _
end Go.Proofs.YtphlbbnmligadaaGreatDoor
namespace Go.Proofs.YtphlbbnmligadaaGreatDoor
open Go.RowKit

theorem len_cntL (L : List St) : L.length ≤ cntL L := by
  induction L with
  | nil => simp
  | cons x L ih =>
    obtain ⟨k, r, v, a, b, t, e⟩ := x
    have h1 := cntS_mk k r v a b t e
    unfold cntL at ih h1 ⊢
    simp only [List.map_cons, List.sum_cons, List.length_cons]
    omega
theorem cntL_mem {L : List St} {y : St} (h : y ∈ L) : cntS y ≤ cntL L := by
  induction L with
  | nil => cases h
  | cons x L ih =>
    unfold cntL at ih ⊢
    simp only [List.map_cons, List.sum_cons]
    rcases List.mem_cons.1 h with rfl | h
    · omega
    · have := ih h
      omega
theorem right_len {p : Pg} (h : rightP p = true) (k : Nat) (hk : k < p.ths.length) : p.ths[k].length ≤ 200 ∧ ∀ y ∈ p.ths[k], y.t.length ≤ 200 ∧ y.e.length ≤ 200 := by
  unfold rightP sumT at h
  simp only [Bool.and_eq_true, decide_eq_true_eq] at h
  have h1 := cntT_take p.ths k hk
  have h2 := cntT_le p.ths (k + 1)
  have h3 := len_cntL p.ths[k]
  have h4 := h.2.2
  refine ⟨by omega, fun y hy => ?_⟩
  have h5 := cntL_mem hy
  have h6 := cntS_eq y
  have h7 := len_cntL y.t
  have h8 := len_cntL y.e
  omega

theorem setCell_swap (w : World) {a b : Nat} (h : a ≠ b) (i j : Nat) (u v : Value) : (w.setCell ⟨a, i, none⟩ u).setCell ⟨b, j, none⟩ v = (w.setCell ⟨b, j, none⟩ v).setCell ⟨a, i, none⟩ u := by
  unfold World.setCell
  simp only [World.mk.injEq, and_true]
  apply Array.ext
  · simp
  · intro k h1 h2
    simp only [Array.getElem_modify]
    by_cases ha : a = k
    · have hb : b ≠ k := fun e => h (ha.trans e.symm)
      simp only [if_pos ha, if_neg hb]
    · simp only [if_neg ha]
theorem put13_set {b g : Nat} (h : b ≠ g) (o off : Nat) (v : Value) (l : List Value) (w : World) : put13 (w.setCell ⟨b, o, none⟩ v) g off l = (put13 w g off l).setCell ⟨b, o, none⟩ v := by
  unfold put13
  have key : ∀ (js : List Nat) (w : World), js.foldl (fun w j => w.setCell ⟨g, off + j, none⟩ (l[j]?.getD undef)) (w.setCell ⟨b, o, none⟩ v) = (js.foldl (fun w j => w.setCell ⟨g, off + j, none⟩ (l[j]?.getD undef)) w).setCell ⟨b, o, none⟩ v := by
    intro js
    induction js with
    | nil => intro w; rfl
    | cons j js ih =>
      intro w
      simp only [List.foldl_cons]
      rw [setCell_swap w h, ih]
  exact key _ w

/-- A statement of a kind, and of nothing else. -/
def kdC (k : Int) : List Value := [.int .i64 k, .int .i64 0, .int .i64 0, .int .i64 0, .int .i64 0, .int .u8 0, .slice none 0 0, .int .i64 0, .int .i64 0, .int .u8 0, .slice none 0 0, .slice none 0 0, .slice none 0 0]
def kdS (k : Int) : St := .mk k 0 0 exZ exZ [] []
theorem kd_in {k : Int} (hk : (Lit.int .i64 k).wf = true) (w : World) (S : Nat → Prop) : StIn w S (kdC k) (kdS k) := StIn.mk k 0 0 _ _ _ _ _ _ _ _ exZ exZ none none 0 0 [] [] (fun _ => []) (fun _ => []) hk (by decide) (by decide) (ExIn.leaf _ _ 0 0 0 (by decide) (by decide) (by decide)) (ExIn.leaf _ _ 0 0 0 (by decide) (by decide) (by decide)) Sl.nil Sl.nil (fun i hi => absurd hi (by simp)) (fun i hi => absurd hi (by simp))

namespace Fr
variable {w0 V : World} {R : Nat → Prop} {Pb k n bx off : Nat} {va : Option Addr} {vars : List ByteArray} {cv : Nat} {dom : Int} {ta : Option Addr} {ct : Nat} {tv : Value} {lo hi : Nat} {cs : List Value} {x x' : St}
/-- What a row that is added to is wanted for. -/
structure Ap (V : World) (Pb lo hi : Nat) (l u m : Nat) (v : Value) (L : List St) (y : St) (cs : List Value) (p : Nat) (x' : St) : Prop where
  row : Rw V l u v L
  len : L.length = m
  le : lo ≤ l ∧ l ≤ u ∧ u ≤ hi
  old : cs[p]? = some v
  new : ∀ (W : World) (A : Option Addr) (c : Nat), V.heap.size ≤ W.heap.size → (∀ b, lo ≤ b → b < hi → (b < l ∨ u ≤ b) → W.heap[b]? = V.heap[b]?) → StRow W (InP Pb W) A (m + 1) c (L ++ [y]) → StIn W (InP Pb W) (cs.set p (.slice A (m + 1) c)) x'
theorem ap_e {u0 u1 u2 u3 v0 v1 v2 v3 : Value} {sa ea : Option Addr} {sc ec : Nat} (h : Fr w0 V R Pb k n bx off va vars cv dom ta ct tv lo hi [.int .i64 x.kind, .int .i64 x.reg, .int .i64 x.var, u0, u1, u2, u3, v0, v1, v2, v3, .slice sa x.t.length sc, .slice ea x.e.length ec] x) (y : St) :
    ∃ l u, Ap V Pb lo hi l u x.e.length (.slice ea x.e.length ec) x.e y [.int .i64 x.kind, .int .i64 x.reg, .int .i64 x.var, u0, u1, u2, u3, v0, v1, v2, v3, .slice sa x.t.length sc, .slice ea x.e.length ec] 12 (.mk x.kind x.reg x.var x.a x.b x.t (x.e ++ [y])) := by
  obtain ⟨_, _, _, _, _, _, _, _, _, _, _, _, e, ⟨wk, wr, wv⟩, h1, h2, ⟨p1, p2, p3⟩, ha, hb, hT, hE⟩ := h.hx
  simp only [List.cons.injEq, Value.slice.injEq, true_and, and_true] at e
  obtain ⟨rfl, rfl, rfl, rfl, rfl, rfl, rfl, rfl, ⟨rfl, rfl⟩, rfl, rfl⟩ := e
  obtain ⟨i1, -, i3, -⟩ := h.i_
  refine ⟨h2, hi, hE, rfl, ⟨by omega, p3, Nat.le_refl _⟩, rfl, fun W A c hz hk hr => ?_⟩
  have hx : ∀ b o, Iv lo h1 b → W.cell? ⟨b, o, none⟩ = V.cell? ⟨b, o, none⟩ := fun b o hb => World.cell?_of_block (hk b hb.1 (by have := hb.2; omega) (by have := hb.2; omega))
  have hw : ∀ b, Iv lo h1 b → InP Pb W b := fun b hb => ⟨by have := hb.2; omega, by have := hb.1; have := hb.2; omega⟩
  have hT' : StRow W (InP Pb W) sa x.t.length sc x.t := ((hT.kept (w' := W) fun b b1 b2 => hk b (by omega) (by omega) (by omega)).row'.2).widen fun b hb => ⟨by have := hb.2; omega, by have := hb.1; have := hb.2; omega⟩
  have hr' : StRow W (InP Pb W) A (x.e ++ [y]).length c (x.e ++ [y]) := by simpa using hr
  have := StIn.rows wk wr wv ((ha.keep hx).widen hw) ((hb.keep hx).widen hw) hT' hr'
  simpa using this
theorem ap_t {u0 u1 u2 u3 v0 v1 v2 v3 : Value} {sa ea : Option Addr} {sc ec : Nat} (h : Fr w0 V R Pb k n bx off va vars cv dom ta ct tv lo hi [.int .i64 x.kind, .int .i64 x.reg, .int .i64 x.var, u0, u1, u2, u3, v0, v1, v2, v3, .slice sa x.t.length sc, .slice ea x.e.length ec] x) (y : St) :
    ∃ l u, Ap V Pb lo hi l u x.t.length (.slice sa x.t.length sc) x.t y [.int .i64 x.kind, .int .i64 x.reg, .int .i64 x.var, u0, u1, u2, u3, v0, v1, v2, v3, .slice sa x.t.length sc, .slice ea x.e.length ec] 11 (.mk x.kind x.reg x.var x.a x.b (x.t ++ [y]) x.e) := by
  obtain ⟨_, _, _, _, _, _, _, _, _, _, _, _, e, ⟨wk, wr, wv⟩, h1, h2, ⟨p1, p2, p3⟩, ha, hb, hT, hE⟩ := h.hx
  simp only [List.cons.injEq, Value.slice.injEq, true_and, and_true] at e
  obtain ⟨rfl, rfl, rfl, rfl, rfl, rfl, rfl, rfl, ⟨rfl, rfl⟩, rfl, rfl⟩ := e
  obtain ⟨i1, -, i3, -⟩ := h.i_
  refine ⟨h1, h2, hT, rfl, ⟨by omega, p2, p3⟩, rfl, fun W A c hz hk hr => ?_⟩
  have hx : ∀ b o, Iv lo h1 b → W.cell? ⟨b, o, none⟩ = V.cell? ⟨b, o, none⟩ := fun b o hb => World.cell?_of_block (hk b hb.1 (by have := hb.2; omega) (by have := hb.2; omega))
  have hw : ∀ b, Iv lo h1 b → InP Pb W b := fun b hb => ⟨by have := hb.2; omega, by have := hb.1; have := hb.2; omega⟩
  have hE' : StRow W (InP Pb W) ea x.e.length ec x.e := ((hE.kept (w' := W) fun b b1 b2 => hk b (by omega) (by omega) (by omega)).row'.2).widen fun b hb => ⟨by have := hb.2; omega, by have := hb.1; have := hb.2; omega⟩
  have hr' : StRow W (InP Pb W) A (x.t ++ [y]).length c (x.t ++ [y]) := by simpa using hr
  have := StIn.rows wk wr wv ((ha.keep hx).widen hw) ((hb.keep hx).widen hw) hr' hE'
  simpa using this
/-- One statement more in a row of its data, and the row put. -/
theorem app {w1 : World} (h : Fr w0 V R Pb k n bx off va vars cv dom ta ct tv lo hi cs x) {l u p m : Nat} {v : Value} {L : List St} {A : Option Addr} {c : Nat} {zs y : St} {zc cs0 : List Value} {T : TypeId}
    (ha : Ap V Pb lo hi l u m v L y cs p x') (hp : p < 13) (hy : ∀ W S, StIn W S cs0 y)
    (hO : StO w1 l (fun b => l ≤ b ∧ b < u ∧ some b ≠ v.ownBlock) (.slice A (m + 1) c) (L ++ [zs])) (hg : (V.alloc (.cells zc.toArray T)).grownBy w1 v.ownBlock) (hat : (Value.slice A (m + 1) c).ownBlock = v.ownBlock ∨ (Value.slice A (m + 1) c).ownBlock = some (V.heap.size + 1)) :
    ∃ g, A = some ⟨g, 0, none⟩ ∧ g < w1.heap.size ∧ m + 1 ≤ c ∧ c ≤ maxLen ∧ ¬ g = bx ∧ ¬ bx = g ∧ bx < w1.heap.size ∧ w1.cell? ⟨bx, off + p, none⟩ = some v ∧ w1.frozen? ⟨bx, off + p, none⟩ = false ∧ (∀ j, j < 13 → ∃ u, w1.cell? ⟨g, m * 13 + j, none⟩ = some u) ∧ (∀ j, w1.frozen? ⟨g, j, none⟩ = false) ∧
      SpJ w0 ((put13 w1 g (m * 13) cs0).setCell ⟨bx, off + p, none⟩ (.slice A (m + 1) c)) Pb k n bx off ta ct tv ∧ SpJ w0 (put13 (w1.setCell ⟨bx, off + p, none⟩ (.slice A (m + 1) c)) g (m * 13) cs0) Pb k n bx off ta ct tv := by
  obtain ⟨hr, hm, ⟨hl, hlu, hu⟩, hv, hx⟩ := ha
  obtain ⟨i1, i2, i3, i4⟩ := h.i_
  have hlw := h.lw
  have hlt := h.lt
  have hpl := h.plt
  have hz : V.heap.size + 1 ≤ w1.heap.size := by simpa using hg.size
  have hvo : ∀ q, v.ownBlock = some q → l ≤ q ∧ q < u := fun q hq => ⟨(hr.1.own q hq).1, hr.2 q hq⟩
  obtain ⟨g, rfl, -, hg1, hg2, hg3, hg4, hg5, hput⟩ := hO.last2 hm (fun b hb => ⟨by have := hb.2.1; omega, fun e => by
    rcases hat with e' | e'
    · rw [e'] at e; exact hb.2.2 e
    · rw [e'] at e
      injection e with e
      have := hb.2.1
      omega⟩)
  have hgo : (l ≤ g ∧ g < u) ∨ g = V.heap.size + 1 := by
    rcases hat with e | e
    · exact .inl (hvo g e.symm)
    · injection e with e
      exact .inr e
  have hbxg : ¬ g = bx := by omega
  have hgP : ¬ g = Pb := by omega
  have hkA : ∀ b, b < V.heap.size → (b < l ∨ u ≤ b) → w1.heap[b]? = V.heap[b]? := fun b hb hout => (hg.block b (by simp; omega) (fun e => by have := hvo b e.symm; omega)).trans (Below.heap_alloc _ _ _ hb)
  obtain ⟨hOx, hgr⟩ := hput cs0 y fun W => hy W _
  have hbl : Below w0.heap.size w0 w1 := (h.bl.alloc (by omega) _).grown hg (by simp; omega) fun q hq => by have := hvo q hq; omega
  have hbl5 : Below w0.heap.size w0 (put13 w1 g (m * 13) cs0) := hbl.grown hgr (by omega) fun q hq => by injection hq; omega
  have hswap : put13 (w1.setCell ⟨bx, off + p, none⟩ (.slice (some ⟨g, 0, none⟩) (m + 1) c)) g (m * 13) cs0 = (put13 w1 g (m * 13) cs0).setCell ⟨bx, off + p, none⟩ (.slice (some ⟨g, 0, none⟩) (m + 1) c) := put13_set (fun e => hbxg e.symm) _ _ _ _ _
  clear hput
  generalize hW5 : put13 w1 g (m * 13) cs0 = W5 at hswap hgr hOx hbl5
  have hz5 := hgr.size
  have hkB : ∀ b, b < V.heap.size → (b < l ∨ u ≤ b) → W5.heap[b]? = V.heap[b]? := fun b hb hout => (hgr.block b (by omega) (by intro e; injection e; omega)).trans (hkA b hb hout)
  have hcb : ∀ o, W5.cell? ⟨bx, o, none⟩ = V.cell? ⟨bx, o, none⟩ := fun o => World.cell?_of_block (a := ⟨bx, o, none⟩) (hkB bx hlt (by omega))
  have hold : V.cell? ⟨bx, off + p, none⟩ = some v := (h.win p hp).trans hv
  have hmain : SpJ w0 (W5.setCell ⟨bx, off + p, none⟩ (.slice (some ⟨g, 0, none⟩) (m + 1) c)) Pb k n bx off ta ct tv := by
    have hkW : ∀ b, b ≠ bx → (W5.setCell ⟨bx, off + p, none⟩ (.slice (some ⟨g, 0, none⟩) (m + 1) c)).heap[b]? = W5.heap[b]? := fun b hb => Below.heap_setCell _ _ _ _ (by simpa using hb)
    have hlen := h.hx.len
    refine h.set (cs' := cs.set p (.slice (some ⟨g, 0, none⟩) (m + 1) c)) (x' := x') (by simp; omega) (fun b hb hne hout => (hkW b hne).trans (hkB b hb (by omega))) (fun o ho => (World.cell?_setCell_other _ _ _ _ (by intro e; injection e; omega)).trans (hcb o)) (fun j hj => ?_) ?_ (hbl5.setCell (p := ⟨bx, off + p, none⟩) (show w0.heap.size ≤ bx from hlw.2.1) _)
    · by_cases e : j = p
      · subst e
        rw [List.getElem?_set_self (by omega)]
        exact World.cell?_setCell_same _ _ _ ((hcb _).trans hold)
      · rw [World.cell?_setCell_other _ _ _ _ (by intro e; injection e; omega), List.getElem?_set_ne (fun q => e q.symm)]
        exact (hcb _).trans (h.win j hj)
    · refine hx _ _ _ (by simp; omega) (fun b b1 b2 hout => (hkW b (by omega)).trans (hkB b (by omega) hout)) ?_
      obtain ⟨a', c', e, hrow⟩ := hOx.rowS (S' := fun b => b < W5.heap.size ∧ b ≠ bx ∧ b ≠ Pb) (fun b hb => ⟨by have := hb.2.1; omega, by have := hb.1; have := hb.2.1; omega, by have := hb.1; have := hb.2.1; omega⟩) (fun q hq => by
        have hq' : g = q := Option.some.inj hq
        subst hq'
        exact ⟨by omega, hbxg, hgP⟩)
      simp only [Value.slice.injEq] at e
      obtain ⟨rfl, hn, rfl⟩ := e
      rw [← hn] at hrow
      exact (hrow.keep fun b o hb => World.cell?_of_block (hkW b hb.2.1)).widen fun b hb => ⟨by simpa using hb.1, hb.2.2⟩
  refine ⟨g, rfl, hg1, hg2, hg3, hbxg, fun e => hbxg e.symm, by omega, (World.cell?_of_block (a := ⟨bx, off + p, none⟩) (hkA bx hlt (by omega))).trans hold, ?_, hg4, hg5, by rw [hW5]; exact hmain, by rw [hswap]; exact hmain⟩
  obtain ⟨_, e⟩ := h.fb
  exact unfrozen ((hkA bx hlt (by omega)).trans e)
end Fr
end Go.Proofs.YtphlbbnmligadaaGreatDoor
