/- A body in pieces: what its first pieces leave may be forgotten in part before the rest is evaluated. No condition. -/
import Derived.Test.YtoecccbjhmejiaaGreatDoorEvAB
namespace Go.Ev

variable {P : Program}

theorem post_mono {w0 : World} {nb n m : Nat} {r r1 : Emb} {h h1 : H} {w w1 : World} {x : X} {f2 : Fr} {d2 : Ds} {h2 : H} (st : Step r h w r1 h1 w1) {e : Exit} {a : Act} {w2 : World}
    (hp : Post P w0 nb n m r1 h1 w1 x f2 d2 h2 e a w2) : Post P w0 nb n m r h w x f2 d2 h2 e a w2 :=
  let ⟨p, q, r2, s2, t2⟩ := hp
  ⟨p, q, r2, s2, st.trans t2⟩

/-- A first piece, then the rest. -/
theorem post_seq {w0 : World} {nb n m m' fuel : Nat} {call : CallFn} (hcall : CallFnOk P w0 call) (hnn : NoNum P) (hdraw : DrawSound P w0 call) {p q : Code} {f f1 f2 : Fr} {d d1 d2 : Ds} {h h1 h2 : H} {x : X}
    (he : den P call m fuel p f d h = .ok .norm f1 d1 h1) (hok : codeOk n p = true)
    (hq : ∀ (r1 : Emb) (a1 : Act) (w1 : World), Dim m f1 → St P w0 nb n r1 (fget f1) d1 h1 a1 w1 → q.wp P (Post P w0 nb n m' r1 h1 w1 x f2 d2 h2) a1 w1)
    (r : Emb) (a : Act) (w : World) (hd : Dim m f) (hs : St P w0 nb n r (fget f) d h a w) : (Code.seq p q).wp P (Post P w0 nb n m' r h w x f2 d2 h2) a w := by
  refine wp_seq (wp_mono (den_sound hcall hnn hdraw p f f1 d d1 h h1 .norm r a w hok hd hs he) ?_)
  rintro e a1 w1 ⟨hx, hd1, r1, hs1, st1⟩
  have e1 : e = .normal := hx
  subst e1
  exact wp_mono (hq r1 a1 w1 hd1 hs1) (fun e a w hp => post_mono st1 hp)

/-- A first piece that is known to leave what it leaves, then the rest. -/
theorem post_then {w0 : World} {nb n m m' : Nat} {p q : Code} {f1 f2 : Fr} {d1 d2 : Ds} {h h1 h2 : H} {x : X} {r : Emb} {a : Act} {w : World} (hp : p.wp P (Post P w0 nb n m r h w .norm f1 d1 h1) a w)
    (hq : ∀ (r1 : Emb) (a1 : Act) (w1 : World), Dim m f1 → St P w0 nb n r1 (fget f1) d1 h1 a1 w1 → q.wp P (Post P w0 nb n m' r1 h1 w1 x f2 d2 h2) a1 w1) : (Code.seq p q).wp P (Post P w0 nb n m' r h w x f2 d2 h2) a w := by
  refine wp_seq (wp_mono hp ?_)
  rintro e a1 w1 ⟨hx, hd1, r1, hs1, st1⟩
  have e1 : e = .normal := hx
  subst e1
  exact wp_mono (hq r1 a1 w1 hd1 hs1) (fun e a w hp => post_mono st1 hp)

/-- The last piece. -/
theorem post_last {w0 : World} {nb n m fuel : Nat} {call : CallFn} (hcall : CallFnOk P w0 call) (hnn : NoNum P) (hdraw : DrawSound P w0 call) {q : Code} {f f2 : Fr} {d d2 : Ds} {h h2 : H} {x : X}
    (he : den P call m fuel q f d h = .ok x f2 d2 h2) (hok : codeOk n q = true) (r : Emb) (a : Act) (w : World) (hd : Dim m f) (hs : St P w0 nb n r (fget f) d h a w) : q.wp P (Post P w0 nb n m r h w x f2 d2 h2) a w :=
  den_sound hcall hnn hdraw q f f2 d d2 h h2 x r a w hok hd hs he

/-- Less may be known. -/
theorem St.less {w0 : World} {nb n : Nat} {r : Emb} {f f' : Fr} {d : Ds} {h : H} {a : Act} {w : World} (hs : St P w0 nb n r (fget f) d h a w) (hl : ∀ t, fget f' t = fget f t ∨ fget f' t = .any) : St P w0 nb n r (fget f') d h a w :=
  ⟨hs.rel, hs.gl, hs.base, fun t => by
    rcases hl t with e | e
    · rw [e]; exact hs.tm t
    · rw [e]; exact .any _, hs.ds, hs.mks, hs.sz⟩
theorem less_fset {f : Fr} {i : Nat} (t : Nat) : fget (fset f i .any) t = fget f t ∨ fget (fset f i .any) t = .any := by
  by_cases hi : i < 256
  · rw [fget_fset _ _ _ _ hi]
    by_cases e : t = i
    · exact Or.inr (if_pos e)
    · exact Or.inl (if_neg e)
  · have : Nat.blt i 256 = false := by rw [← Bool.not_eq_true, Nat.blt_eq]; exact hi
    left
    unfold fset
    rw [this]
    rfl
theorem dim_any {m i : Nat} {f : Fr} (hd : Dim m f) : Dim m (fset f i .any) := by
  intro t ht
  rcases less_fset (f := f) (i := i) t with e | e
  · rw [e]; exact hd t ht
  · exact e

/-- A call, out of its body's pieces: nothing is deferred. -/
theorem calls_of_post {w0 : World} {m m' : Nat} {g : FuncId} {fn : Func} {c : Code} (hf : P.funcs[g]? = some fn) (hb : fn.body = some c) {vs : List V} {h h1 : H} {x : X} (hx : x = .norm ∨ x = .ret) {f1 : Fr} {l : List V}
    (hwp : ∀ (nb : Nat) (r : Emb) (a : Act) (w : World), Dim m (args0 m 0 vs fr0) → St P w0 nb fn.ntmps r (fget (args0 m 0 vs fr0)) [] h a w → c.wp P (Post P w0 nb fn.ntmps m' r h w x f1 [] h1) a w)
    (hres : resV P f1 h1 fn.results.toList = some l) : CallOk P w0 g vs h (oneRes l) h1 := by
  intro r w xs hr hg hba hvs
  obtain ⟨hd, hs⟩ := St.enter (n := fn.ntmps) (mask := m) hr hg hba hvs
  refine calls_of_wp_defers hf hb ?_
  refine wp_mono (hwp _ r _ w hd hs) ?_
  rintro e a1 w1 ⟨hxe, hd1, r1, hs1, st1⟩
  have key : Leaves P fn a1.tmps (fun e w' => ∃ z r', e = .returned z ∧ Step r h w r' h1 w' ∧ VRel r' (oneRes l) z) a1.defers .returning w1 := by
    have hdef : a1.defers = [] := by
      have := hs1.ds
      cases hq : a1.defers with
      | nil => rfl
      | cons _ _ => rw [hq] at this; cases this
    rw [hdef]
    obtain ⟨z, g1, g2⟩ := oneRes_sound hs1.rel hs1.tm hres
    exact ⟨z, g1, z, r1, rfl, st1, g2⟩
  rcases hx with rfl | rfl
  · have e1 : e = .normal := hxe
    subst e1
    exact key
  · have e1 : e = .ret := hxe
    subst e1
    exact key

end Go.Ev
