/-
  Layer 10: what stands in frames.
-/
import Derived.Test.YtdilhnnbfkiacaaAre6
import Derived.Test.YtdilhnnbfkiacaaByt0
set_option maxRecDepth 100000
set_option linter.unusedSimpArgs false
namespace Lav
open Go (IntKind)

/-- Where bodies lie. -/
def bods (fs : List Fm) : List Nat := fs.filterMap fun f => if f.st = 1 then blk f.y else none
theorem mem_bods {fs : List Fm} {k : Nat} : k ∈ bods fs ↔ ∃ (i : Nat) (f : Fm), fs[i]? = some f ∧ f.st = 1 ∧ blk f.y = some k := by
  unfold bods
  rw [List.mem_filterMap]
  constructor
  · rintro ⟨f, hf, he⟩
    obtain ⟨i, hi⟩ := List.getElem?_of_mem hf
    split at he
    · exact ⟨i, f, hi, by assumption, he⟩
    · cases he
  · rintro ⟨i, f, hf, hs, hb⟩
    exact ⟨f, List.mem_of_getElem? hf, by rw [if_pos hs]; exact hb⟩

/-- Frames' bodies. -/
structure BH (h : Heap) (p : Nat) (a : AP) (fs : List Fm) (B : Nat → List (BitVec 8)) : Prop where
  at_ : ∀ (i : Nat) (f : Fm), fs[i]? = some f → f.st = 1 → ∃ b, f.y = .sl b 0 16 (.ex 16) ∧ h.get b = some (.cells (u8s (B i))) ∧ (B i).length = 16 ∧ b < h.next ∧ b ∉ own p a
  ne : ∀ (i j : Nat) (f g : Fm), fs[i]? = some f → fs[j]? = some g → f.st = 1 → g.st = 1 → i ≠ j → blk f.y ≠ blk g.y

section
variable {N d : Nat} {h : Heap} {p : Nat} {a : AP} {fs : List Fm} {o : List Int} {M : Nat → Option Int} {c : Nat} {B : Nat → List (BitVec 8)}

theorem BH.old (b : BH h p a fs B) : ∀ k ∈ bods fs, k < h.next ∧ k ∉ own p a := by
  intro k hk
  obtain ⟨i, f, hf, hs, hb⟩ := mem_bods.1 hk
  obtain ⟨j, hy, _, _, hn, ho⟩ := b.at_ i f hf hs
  rw [hy] at hb
  simp only [blk, Option.some.injEq] at hb
  subst hb
  exact ⟨hn, ho⟩
theorem BH.ext {S : List Nat} {h' : Heap} {a' : AP} (b : BH h p a fs B) (e : ExtB S h h') (hd : ∀ k ∈ bods fs, k ∉ S) (ho : ∀ k ∈ bods fs, k ∉ own p a') : BH h' p a' fs B := by
  refine ⟨fun i f hf hs => ?_, b.ne⟩
  obtain ⟨j, hy, hg, hl, hn, _⟩ := b.at_ i f hf hs
  have hm : j ∈ bods fs := mem_bods.2 ⟨i, f, hf, hs, by rw [hy]; rfl⟩
  exact ⟨j, hy, e.at_ hg hn (hd j hm), hl, Nat.lt_of_lt_of_le hn e.1, ho j hm⟩
/-- The same bodies stand in other frames. -/
theorem BH.like {fs' : List Fm} (b : BH h p a fs B) (hl : ∀ (i : Nat) (g : Fm), fs'[i]? = some g → g.st = 1 → ∃ f, fs[i]? = some f ∧ f.st = 1 ∧ f.y = g.y) : BH h p a fs' B := by
  refine ⟨fun i g hg hs => ?_, fun i j f g hf hg hs ht hne => ?_⟩
  · obtain ⟨f, hf, hs', e⟩ := hl i g hg hs
    rw [← e]
    exact b.at_ i f hf hs'
  · obtain ⟨f', hf', hs', e⟩ := hl i f hf hs
    obtain ⟨g', hg', ht', e'⟩ := hl j g hg ht
    rw [← e, ← e']
    exact b.ne i j f' g' hf' hg' hs' ht' hne
theorem like_set {i : Nat} {g : Fm} (hi : i < fs.length) (h1 : g.st = 1 → fs[i].st = 1 ∧ fs[i].y = g.y) : ∀ (j : Nat) (x : Fm), (fs.set i g)[j]? = some x → x.st = 1 → ∃ f, fs[j]? = some f ∧ f.st = 1 ∧ f.y = x.y := by
  intro j x hx hs
  rcases (set_at hi).1 hx with ⟨rfl, rfl⟩ | ⟨_, h'⟩
  · exact ⟨fs[j], List.getElem?_eq_getElem hi, (h1 hs).1, (h1 hs).2⟩
  · exact ⟨x, h', hs, rfl⟩
theorem bods_like {fs' : List Fm} (hl : ∀ (i : Nat) (g : Fm), fs'[i]? = some g → g.st = 1 → ∃ f, fs[i]? = some f ∧ f.st = 1 ∧ f.y = g.y) : ∀ k ∈ bods fs', k ∈ bods fs := by
  intro k hk
  obtain ⟨i, g, hg, hs, hb⟩ := mem_bods.1 hk
  obtain ⟨f, hf, hs', e⟩ := hl i g hg hs
  exact mem_bods.2 ⟨i, f, hf, hs', by rw [e]; exact hb⟩

/-- An arena with its bodies. -/
structure AB (h : Heap) (p : Nat) (a : AP) (fs : List Fm) (o : List Int) (M : Nat → Option Int) (B : Nat → List (BitVec 8)) : Prop where
  ah : AH h p a fs o M
  bh : BH h p a fs B
/-- All that is its own. -/
def all (p : Nat) (a : AP) (fs : List Fm) : List Nat := own p a ++ bods fs
theorem AB.old (A : AB h p a fs o M B) : ∀ k ∈ all p a fs, k < h.next := by
  intro k hk
  rcases List.mem_append.1 hk with hk | hk
  · exact A.ah.ar.old k hk
  · exact (A.bh.old k hk).1
theorem AB.ext {S : List Nat} {h' : Heap} (A : AB h p a fs o M B) (e : ExtB S h h') (hd : ∀ k ∈ all p a fs, k ∉ S) : AB h' p a fs o M B :=
  ⟨A.ah.ext e fun k hk => hd k (List.mem_append.2 (.inl hk)), A.bh.ext e (fun k hk => hd k (List.mem_append.2 (.inr hk))) fun k hk => (A.bh.old k hk).2⟩
theorem AB.ext' {h' : Heap} (A : AB h p a fs o M B) (e : Ext h h') : AB h' p a fs o M B := A.ext (e.b []) (by simp)
/-- Nothing of another's becomes its own. -/
def YoungB (h : Heap) (p : Nat) (a : AP) (fs : List Fm) (a' : AP) (fs' : List Fm) : Prop := ∀ k ∈ all p a' fs', k ∈ all p a fs ∨ h.next ≤ k
theorem ExtB.ownB {h' : Heap} (e : ExtB (Lav.own p a) h h') : ExtB (all p a fs) h h' := e.mono fun _ hk => List.mem_append.2 (.inl hk)

/-- A step that turns no body. -/
theorem AB.step {h' : Heap} {fs' : List Fm} {o' : List Int} {M' : Nat → Option Int} (A : AB h p a fs o M B) (A' : AH h' p a fs' o' M') (e : ExtB (own p a) h h')
    (hl : ∀ (i : Nat) (g : Fm), fs'[i]? = some g → g.st = 1 → ∃ f, fs[i]? = some f ∧ f.st = 1 ∧ f.y = g.y) : AB h' p a fs' o' M' B ∧ ExtB (all p a fs) h h' ∧ YoungB h p a fs a fs' := by
  refine ⟨⟨A', (A.bh.ext e (fun k hk => (A.bh.old k hk).2) fun k hk => (A.bh.old k hk).2).like hl⟩, e.ownB, fun k hk => .inl ?_⟩
  rcases List.mem_append.1 hk with hk | hk
  · exact List.mem_append.2 (.inl hk)
  · exact List.mem_append.2 (.inr (bods_like hl k hk))

theorem AB.pin (A : AB h p a fs o M B) (f : Int) : ∃ h', evCallT table 18 N (d + 2) 12 [.c (.ptr p 0), .c (.int .i64 f)] h = some (.c (.int .i64 (pinF fs f).1), h') ∧ AB h' p a (pinF fs f).2 o M B ∧ ExtB (all p a fs) h h' ∧ YoungB h p a fs a (pinF fs f).2 := by
  obtain ⟨h', e, A', x⟩ := A.ah.pin (N := N) (d := d) f
  refine ⟨h', e, A.step A' x ?_⟩
  unfold pinF
  cases eu : usedF fs f with
  | none => exact fun i g hg hs => ⟨g, hg, hs, rfl⟩
  | some x =>
    obtain ⟨i, g⟩ := x
    obtain ⟨rfl, hi, rfl, h1⟩ := usedF_some eu
    simp only
    split
    · exact fun i g hg hs => ⟨g, hg, hs, rfl⟩
    · exact like_set hi fun hs => ⟨h1, rfl⟩
theorem AB.unpin (A : AB h p a fs o M B) (f : Int) : ∃ h', evCallT table 18 N (d + 2) 13 [.c (.ptr p 0), .c (.int .i64 f)] h = some (.c (.int .i64 (unpinF fs f).1), h') ∧ AB h' p a (unpinF fs f).2 o M B ∧ ExtB (all p a fs) h h' ∧ YoungB h p a fs a (unpinF fs f).2 := by
  obtain ⟨h', e, A', x⟩ := A.ah.unpin (N := N) (d := d) f
  refine ⟨h', e, A.step A' x ?_⟩
  unfold unpinF
  cases eu : usedF fs f with
  | none => exact fun i g hg hs => ⟨g, hg, hs, rfl⟩
  | some x =>
    obtain ⟨i, g⟩ := x
    obtain ⟨rfl, hi, rfl, h1⟩ := usedF_some eu
    simp only
    split
    · exact fun i g hg hs => ⟨g, hg, hs, rfl⟩
    · exact like_set hi fun hs => ⟨h1, rfl⟩
theorem AB.mark (A : AB h p a fs o M B) (f : Int) (b : Bool) : ∃ h', evCallT table 18 N (d + 2) 25 [.c (.ptr p 0), .c (.int .i64 f), .c (.bool b)] h = some (.c (.int .i64 (markF fs f b).1), h') ∧ AB h' p a (markF fs f b).2 o M B ∧ ExtB (all p a fs) h h' ∧ YoungB h p a fs a (markF fs f b).2 := by
  obtain ⟨h', e, A', x⟩ := A.ah.mark (N := N) (d := d) f b
  refine ⟨h', e, A.step A' x ?_⟩
  unfold markF
  cases eu : usedF fs f with
  | none => exact fun i g hg hs => ⟨g, hg, hs, rfl⟩
  | some x =>
    obtain ⟨i, g⟩ := x
    obtain ⟨rfl, hi, rfl, h1⟩ := usedF_some eu
    exact like_set hi fun hs => ⟨h1, rfl⟩
theorem AB.drop (A : AB h p a fs o M B) (f : Int) (hN : 100 ≤ N) : ∃ M' h', evCallT table 18 N (d + 4) 14 [.c (.ptr p 0), .c (.int .i64 f)] h = some (.c (.int .i64 (dropF fs o f).1), h') ∧ AB h' p a (dropF fs o f).2.1 (dropF fs o f).2.2 M' B ∧ ExtB (all p a fs) h h' ∧ YoungB h p a fs a (dropF fs o f).2.1 := by
  obtain ⟨M', h', e, A', x⟩ := A.ah.drop (N := N) (d := d) f hN
  refine ⟨M', h', e, A.step A' x ?_⟩
  unfold dropF
  cases eu : usedF fs f with
  | none => exact fun i g hg hs => ⟨g, hg, hs, rfl⟩
  | some x =>
    obtain ⟨i, g⟩ := x
    obtain ⟨rfl, hi, rfl, h1⟩ := usedF_some eu
    simp only
    split
    · exact fun i g hg hs => ⟨g, hg, hs, rfl⟩
    · exact like_set hi fun hs => absurd hs (by decide)
theorem AB.retire (A : AB h p a fs o M B) : ∃ h', evCallT table 18 N (d + 3) 16 [.c (.ptr p 0)] h = some (.c (.int .i64 (retireF fs o).1), h') ∧ AB h' p a (retireF fs o).2.1 (retireF fs o).2.2 M B ∧ ExtB (all p a fs) h h' ∧ YoungB h p a fs a (retireF fs o).2.1 := by
  obtain ⟨h', e, A', x⟩ := A.ah.retire (N := N) (d := d)
  refine ⟨h', e, A.step A' x ?_⟩
  cases o with
  | nil => exact fun i g hg hs => ⟨g, hg, hs, rfl⟩
  | cons f o' =>
    obtain ⟨i, hi, rfl, h0⟩ := A.ah.fo.lt (x := f) (by simp)
    unfold retireF
    simp only [Int.toNat_natCast, List.getElem?_eq_getElem hi]
    exact like_set hi fun hs => absurd hs (by show ¬ (4 : Int) = 1; decide)
theorem AB.add (A : AB h p a fs o M B) (hN : 100 ≤ N) : ∃ a' h', evCallT table 18 N (d + 3) 15 [.c (.ptr p 0)] h = some (.c (.int .i64 (addF fs o).1), h') ∧ AB h' p a' (addF fs o).2.1 (addF fs o).2.2 M B ∧ ExtB (all p a fs) h h' ∧ YoungB h p a fs a' (addF fs o).2.1 := by
  obtain ⟨a', h', e, A', x, y⟩ := A.ah.add (N := N) (d := d) hN
  have hl : ∀ (i : Nat) (g : Fm), (addF fs o).2.1[i]? = some g → g.st = 1 → ∃ f, fs[i]? = some f ∧ f.st = 1 ∧ f.y = g.y := by
    unfold addF
    split
    · exact fun i g hg hs => ⟨g, hg, hs, rfl⟩
    · split
      · rename_i hr; exact like_set hr fun hs => absurd hs (by decide)
      · intro i g hg hs
        rcases app_at.1 hg with ⟨_, rfl⟩ | h'
        · cases hs
        · exact ⟨g, h', hs, rfl⟩
  refine ⟨a', h', e, ⟨A', (A.bh.ext x (fun k hk => (A.bh.old k hk).2) fun k hk hm => ?_).like hl⟩, x.ownB, fun k hk => ?_⟩
  · rcases y k hm with h1 | h1
    · exact (A.bh.old k hk).2 h1
    · have := (A.bh.old k hk).1; omega
  · rcases List.mem_append.1 hk with hk | hk
    · exact (y k hk).elim (fun h => .inl (List.mem_append.2 (.inl h))) .inr
    · exact .inl (List.mem_append.2 (.inr (bods_like hl k hk)))
theorem AB.take (A : AB h p a fs o M B) (g : Int) (hN : 100 ≤ N) : ∃ y M' B' h', evCallT table 18 N (d + 5) 11 [.c (.ptr p 0), .c (.int .i64 g)] h = some (.c (.int .i64 (takeF fs o g y).1), h') ∧ AB h' p a (takeF fs o g y).2.1 (takeF fs o g y).2.2 M' B' ∧ ExtB (all p a fs) h h' ∧ YoungB h p a fs a (takeF fs o g y).2.1 ∧
    B' = (if g < 0 ∨ g ≥ 48 ∨ 0 ≤ findF fs g ∨ o = [] then B else fun j => if (j : Int) = o.headD 0 then List.replicate 16 0#8 else B j) := by
  obtain ⟨y, M', h', e, A', x, hy⟩ := A.ah.take (N := N) (d := d) g hN
  by_cases hb : g < 0 ∨ g ≥ 48 ∨ 0 ≤ findF fs g ∨ o = []
  · refine ⟨y, M', B, h', e, ?_, ?_⟩
    · have et : takeF fs o g y = (-1, fs, o) := by
        unfold takeF
        by_cases h1 : g < 0 ∨ g ≥ 48 ∨ 0 ≤ findF fs g
        · rw [if_pos h1]
        · rw [if_neg h1]
          have : o = [] := by
            rcases hb with h | h | h | h
            · exact absurd (.inl h) h1
            · exact absurd (.inr (.inl h)) h1
            · exact absurd (.inr (.inr h)) h1
            · exact h
          subst this; rfl
      rw [et] at A' ⊢
      exact (A.step A' x fun i g hg hs => ⟨g, hg, hs, rfl⟩).1
    · rw [if_pos hb]
      refine ⟨x.ownB, ?_, rfl⟩
      have et : (takeF fs o g y).2.1 = fs := by
        unfold takeF
        by_cases h1 : g < 0 ∨ g ≥ 48 ∨ 0 ≤ findF fs g
        · rw [if_pos h1]
        · rw [if_neg h1]
          have : o = [] := by
            rcases hb with h | h | h | h
            · exact absurd (.inl h) h1
            · exact absurd (.inr (.inl h)) h1
            · exact absurd (.inr (.inr h)) h1
            · exact h
          subst this; rfl
      rw [et]
      exact fun k hk => .inl hk
  · rw [if_neg hb]
    cases o with
    | nil => exact absurd (.inr (.inr (.inr rfl))) hb
    | cons f o' =>
      obtain ⟨i, hi, rfl, h0⟩ := A.ah.fo.lt (x := f) (by simp)
      have et : takeF fs ((i : Int) :: o') g y = ((i : Int), fs.set i ⟨1, g, 0, false, y⟩, o') := by
        unfold takeF
        rw [if_neg fun h => hb (h.elim .inl fun h => .inr (h.elim .inl fun h => .inr (.inl h)))]
        simp only [Int.toNat_natCast]
      rw [et] at e A'
      rcases hy with ⟨rfl, rfl⟩ | ⟨b, rfl, hb1, hb2, hb3⟩
      · -- it was taken: its body is somewhere
        exfalso
        have f1 := free_ok (N := N) (d := 0) A.ah.ar
        have f2 := free_ok (N := N) (d := 0) A'.ar
        rw [f1] at f2
        simp only [Option.some.injEq, Prod.mk.injEq, AV.c.injEq, CV.int.injEq, List.length_cons] at f2
        omega
      · refine ⟨.sl b 0 16 (.ex 16), ?_⟩
        rw [et]
        have own' := A.ah.ar.old
        refine ⟨M', _, h', e, ⟨A', ⟨fun j x' hx hs => ?_, fun j l x' z hx hz hs ht hne => ?_⟩⟩, x.ownB, fun k hk => ?_, rfl⟩
        · rcases (set_at hi).1 hx with ⟨rfl, rfl⟩ | ⟨hne, hx'⟩
          · refine ⟨b, rfl, ?_, ?_, hb2, fun hm => by have := own' b hm; omega⟩
            · rw [hb3, zeros8]; simp
            · simp
          · obtain ⟨b', h1, h2, h3, h4, h5⟩ := A.bh.at_ j x' hx' hs
            have hj : ¬ (j : Int) = (i : Int) := by omega
            refine ⟨b', h1, ?_, ?_, Nat.lt_of_lt_of_le h4 x.1, h5⟩
            · show h'.get b' = some (.cells (u8s (if (j : Int) = (i : Int) then List.replicate 16 0#8 else B j)))
              rw [if_neg hj]; exact x.at_ h2 h4 h5
            · show (if (j : Int) = (i : Int) then List.replicate 16 0#8 else B j).length = 16
              rw [if_neg hj]; exact h3
        · rcases (set_at hi).1 hx with ⟨rfl, rfl⟩ | ⟨hne1, hx'⟩
          · rcases (set_at hi).1 hz with ⟨rfl, rfl⟩ | ⟨hne2, hz'⟩
            · exact absurd rfl hne
            · obtain ⟨b', h1, h2, h3, h4, h5⟩ := A.bh.at_ l z hz' ht
              rw [h1]; simp [blk]; omega
          · rcases (set_at hi).1 hz with ⟨rfl, rfl⟩ | ⟨hne2, hz'⟩
            · obtain ⟨b', h1, h2, h3, h4, h5⟩ := A.bh.at_ j x' hx' hs
              rw [h1]; simp [blk]; omega
            · exact A.bh.ne j l x' z hx' hz' hs ht hne
        · rcases List.mem_append.1 hk with hk | hk
          · exact .inl (List.mem_append.2 (.inl hk))
          · obtain ⟨j, x', hx, hs, hbk⟩ := mem_bods.1 hk
            rcases (set_at hi).1 hx with ⟨rfl, rfl⟩ | ⟨hne, hx'⟩
            · simp [blk] at hbk; right; omega
            · exact .inl (List.mem_append.2 (.inr (mem_bods.2 ⟨j, x', hx', hs, hbk⟩)))
end
end Lav
