/- The rules of the abstract program logic with their reckoning in place: what a rule asks of the operations is found by simp, over the facts that a walk keeps under the name fx. No Go text in it. -/
import Derived.Test.YtkjfdacjjogpcaaPiSet
set_option linter.unusedVariables false
set_option linter.unusedSimpArgs false
set_option maxRecDepth 100000
namespace Go.Proofs.YtkjfdacjjogpcaaPi
variable {P : Program} {n : Nat} {Q : Exit → ASt → Prop} {st : ASt}

theorem GOps.sim {R : Exit → ASt → Prop} {l l' : List GO} {st' : ASt} (h : GOps P n l' R st') (hr : runOps P n l st = (st', l') := by (try simp only [fx, lookupV, updateV, lookupK, updateK, slicePV, pe0, pe1, pe2, pe3, pe4, pe5, pe6, pe7, pr0, pr1, Nat.reduceAdd, Nat.reduceMul, Nat.reduceLeDiff, Nat.reduceLT, Nat.reduceEqDiff, Nat.reduceBEq, Nat.reduceSub, reduceCtorEq, reduceIte, Int.reduceToNat, Int.reduceLE, Int.reduceEq, Int.reduceNe, Int.reduceBEq, Int.reduceBNe, Int.reduceLT, Int.reduceGT, Int.reduceGE, Int.reduceNeg]); with_reducible rfl) : GOps P n l R st := GOps.run (by rw [hr]; exact h)
theorem DOps.sim {deps : List (List Nat)} {K : ASt → Prop} {l l' : List GO} {acc acc' : List Met} {st' : ASt} (h : DOps P n deps l' acc' st' K) (hr : runD P n l acc st = (acc', st', l') := by (try simp only [fx, lookupV, updateV, lookupK, updateK, slicePV, pe0, pe1, pe2, pe3, pe4, pe5, pe6, pe7, pr0, pr1, Nat.reduceAdd, Nat.reduceMul, Nat.reduceLeDiff, Nat.reduceLT, Nat.reduceEqDiff, Nat.reduceBEq, Nat.reduceSub, reduceCtorEq, reduceIte, Int.reduceToNat, Int.reduceLE, Int.reduceEq, Int.reduceNe, Int.reduceBEq, Int.reduceBNe, Int.reduceLT, Int.reduceGT, Int.reduceGE, Int.reduceNeg]); with_reducible rfl) : DOps P n deps l acc st K := DOps.run (by rw [hr]; exact h)
theorem ACalls.sim {f : FuncId} {args args' : List PV} {up up' : Frs} {R : PV → Frs → Prop} (h : ACalls P f args' up' R) (ha : args = args' := by (try simp only [fx, lookupV, updateV, lookupK, updateK, slicePV, pe0, pe1, pe2, pe3, pe4, pe5, pe6, pe7, pr0, pr1, Nat.reduceAdd, Nat.reduceMul, Nat.reduceLeDiff, Nat.reduceLT, Nat.reduceEqDiff, Nat.reduceBEq, Nat.reduceSub, reduceCtorEq, reduceIte, Int.reduceToNat, Int.reduceLE, Int.reduceEq, Int.reduceNe, Int.reduceBEq, Int.reduceBNe, Int.reduceLT, Int.reduceGT, Int.reduceGE, Int.reduceNeg]); with_reducible rfl) (hu : up = up' := by (try simp only [fx, lookupV, updateV, lookupK, updateK, slicePV, pe0, pe1, pe2, pe3, pe4, pe5, pe6, pe7, pr0, pr1, Nat.reduceAdd, Nat.reduceMul, Nat.reduceLeDiff, Nat.reduceLT, Nat.reduceEqDiff, Nat.reduceBEq, Nat.reduceSub, reduceCtorEq, reduceIte, Int.reduceToNat, Int.reduceLE, Int.reduceEq, Int.reduceNe, Int.reduceBEq, Int.reduceBNe, Int.reduceLT, Int.reduceGT, Int.reduceGE, Int.reduceNeg]); with_reducible rfl) : ACalls P f args up R := by subst ha hu; exact h
theorem End.kp {k : List KF} {c : Code} {e : List (Nat × PV)} (ks : List Nat) (h : Run P n Q k c ⟨e, st.loc, st.up⟩) (hk : ekeep ks st.env = e := by (try simp only [pk0, Nat.reduceBEq, reduceIte]); with_reducible rfl) : End P n Q (.rest c :: k) st := by subst hk; exact End.keep ks h
theorem Run.go {k : List KF} {ops : Array Oper} {id : Nat} {l : List GO} {s' : ASt} (h : End P n Q k s') (hl : gosOf ops ops.toList = some l := by rfl) (hr : runOps P n l st = (s', []) := by (try simp only [fx, lookupV, updateV, lookupK, updateK, slicePV, pe0, pe1, pe2, pe3, pe4, pe5, pe6, pe7, pr0, pr1, Nat.reduceAdd, Nat.reduceMul, Nat.reduceLeDiff, Nat.reduceLT, Nat.reduceEqDiff, Nat.reduceBEq, Nat.reduceSub, reduceCtorEq, reduceIte, Int.reduceToNat, Int.reduceLE, Int.reduceEq, Int.reduceNe, Int.reduceBEq, Int.reduceBNe, Int.reduceLT, Int.reduceGT, Int.reduceGE, Int.reduceNeg]); with_reducible rfl) : Run P n Q k (.region id ops false) st :=
 Run.region hl fun K hK => GOps.run (by rw [hr]; exact GOps.done (hK _ h))
def depsOf : List Oper → List (List Nat) → List (List Nat)
 | [], acc => acc
 | o :: l, acc => depsOf l (acc ++ [(o.after.toList.foldl (fun s e => if Region.binds .any e then (e.on :: (acc.getD e.on [] ++ s)) else s) []).eraseDups])
theorem Run.drawA {k : List KF} {ops : Array Oper} {id : Nat} {l : List GO} (h : ∀ K : ASt → Prop, (∀ s, End P n Q k s → K s) → DOps P n (depsOf ops.toList []) l [] st K) (hm : P.follows .mixedOrders = true := by kernel_rfl) (hl : gosOf ops ops.toList = some l := by rfl) (hd : depsOk ops (depsOf ops.toList []) = true := by kernel_rfl) (hs : slotsB (depsOf ops.toList []) l = true := by kernel_rfl) : Run P n Q k (.region id ops true) st :=
 Run.draw _ hm hl hd hs h
theorem Run.resC {k : List KF} {m : Nat} {rs : List ResultVar} {R : PV → Frs → Prop} {xs : List PV} {y : PV} (hQ : ∀ e s, RetQ P m rs R e s → Q e s) (h3 : R y st.up) (h1 : ressPV P st rs = some xs := by (try simp only [fx, ressPV, resPV, lookupV, updateV, lookupK, updateK, slicePV, pe0, pe1, pe2, pe3, pe4, pe5, pe6, pe7, pr0, pr1, Nat.reduceAdd, Nat.reduceMul, Nat.reduceLeDiff, Nat.reduceLT, Nat.reduceEqDiff, Nat.reduceBEq, Nat.reduceSub, reduceCtorEq, reduceIte, Int.reduceToNat, Int.reduceLE, Int.reduceEq, Int.reduceNe, Int.reduceBEq, Int.reduceBNe, Int.reduceLT, Int.reduceGT, Int.reduceGE, Int.reduceNeg]); rfl) (h2 : ((oneOrTup xs).solid (frzs st.loc [oneOrTup xs] :: st.up)).down = some y := by rfl) : Run P n Q k .ret st :=
 Run.retC hQ h1 h2 h3
theorem End.resC {m : Nat} {rs : List ResultVar} {R : PV → Frs → Prop} {xs : List PV} {y : PV} (hQ : ∀ e s, RetQ P m rs R e s → Q e s) (h3 : R y st.up) (h1 : ressPV P st rs = some xs := by (try simp only [fx, ressPV, resPV, lookupV, updateV, lookupK, updateK, slicePV, pe0, pe1, pe2, pe3, pe4, pe5, pe6, pe7, pr0, pr1, Nat.reduceAdd, Nat.reduceMul, Nat.reduceLeDiff, Nat.reduceLT, Nat.reduceEqDiff, Nat.reduceBEq, Nat.reduceSub, reduceCtorEq, reduceIte, Int.reduceToNat, Int.reduceLE, Int.reduceEq, Int.reduceNe, Int.reduceBEq, Int.reduceBNe, Int.reduceLT, Int.reduceGT, Int.reduceGE, Int.reduceNeg]); rfl) (h2 : ((oneOrTup xs).solid (frzs st.loc [oneOrTup xs] :: st.up)).down = some y := by rfl) : End P n Q [] st :=
 End.allC hQ h1 h2 h3
theorem Run.resI {kk : List KF} {m k : Nat} {rs : List ResultVar} {R : PV → Frs → Prop} {xs : List PV} {y : PV} {t sz fz : Nat} {rows : List (List Im)} (j : Nat) (hQ : ∀ e s, RetI P m rs k R e s → Q e s) (hk : fget st.up 0 k = some .dead) (h3 : R y (fset st.up 0 k (.row t sz rows fz))) (h1 : ressPV P st rs = some xs := by (try simp only [fx, ressPV, resPV, lookupV, updateV, lookupK, updateK, slicePV, pe0, pe1, pe2, pe3, pe4, pe5, pe6, pe7, pr0, pr1, Nat.reduceAdd, Nat.reduceMul, Nat.reduceLeDiff, Nat.reduceLT, Nat.reduceEqDiff, Nat.reduceBEq, Nat.reduceSub, reduceCtorEq, reduceIte, Int.reduceToNat, Int.reduceLE, Int.reduceEq, Int.reduceNe, Int.reduceBEq, Int.reduceBNe, Int.reduceLT, Int.reduceGT, Int.reduceGE, Int.reduceNeg]); rfl) (hj : st.loc[j]? = some (.row t sz rows fz) := by rfl) (h2 : (oneOrTup xs).into j k = some y := by rfl) : Run P n Q kk .ret st :=
 Run.retI j hQ h1 hj hk h2 h3
theorem DOps.opX {deps : List (List Nat)} {K : ASt → Prop} {gs : List GO} {acc : List Met} {g : GO} (v : PV) (rd ws : List (Ref × AObj)) (hg : guardA st.env g.guard = some true) (hd : okDst n g.dst = true) (hrd : Agree rd st.fr)
  (hop : ∀ s, Sees st s g.op → Agree rd s.fr → OpOk P n s g.op v (s.setFr (wr s.fr ws)))
  (hk : DOps P n deps gs (acc ++ [⟨(refsOf st.fr (valsO st (opndsM g.op)) ++ rd).map (·.1), ws.map (·.1), [], []⟩]) ((st.setFr (wr st.fr ws)).put g.dst v) K) : DOps P n deps (g :: gs) acc st K :=
 DOps.cons (α := actOf st g v rd ws) (exe_op hd rfl (fun s hs => guard_local (actOf_sees hs).2.1 hg) (fun s hs => hop s (actOf_sees hs).1 (actOf_sees hs).2.2)) (actOf_self hrd) actOf_fits rfl hk
def hitPV (z : Im) (ok : Bool) : Option (Nat × Im) → PV
 | some (_, v) => if ok then .tup [.im v, .im (.bool true)] else .im v
 | none => if ok then .tup [.im z, .im (.bool false)] else .im z
theorem lookK_some {s : ASt} {t kt e : TypeId} {d j : Nat} {cs : List PV} {ks : List Im} {ts : List TypeId} {es : List (List Im × Im)} {z : Im} {r : Option (Nat × Im)} {ok : Bool} (hmt : mapT P t = some (kt, e)) (hcs : imsPV s.fr cs = some ks) (hts : eqsT P kt = some ts) (hl : look s.fr d j = some (.map es)) (hz : zeroOne P e = some z) (hn : ks.length = ts.length) (hf : findKs P ts ks es 0 = some r) : lookupK P s t (.map d j) (.agg cs) ok = some (hitPV z ok r) := by
 simp only [lookupK, hmt, hcs, hts, hl, hz, hn, hf, if_true, Option.map_some]
 cases r with
 | none => rfl
 | some p => rfl
theorem DOps.lookK {deps : List (List Nat)} {K : ASt → Prop} {gs : List GO} {acc : List Met} {dst : Option Nat} {gd : Option (Nat × Bool)} {t kt e : TypeId} {m k : Operand} {ok : Bool} {cs : List PV} {ts : List TypeId} {z : Im} {d j : Nat} (ks : List Im) (es : List (List Im × Im)) (r : Option (Nat × Im))
  (hf : findKs P ts ks es 0 = some r) (hrd : fget st.fr d j = some (.map es)) (hk : DOps P n deps gs (acc ++ [⟨[(d, j)], [], [], []⟩]) (st.put dst (hitPV z ok r)) K)
  (hg : guardA st.env gd = some true := by rfl) (hd : okDst n dst = true := by rfl) (hm : evalPV st m = some (.map d j) := by rfl) (hkk : evalPV st k = some (.agg cs) := by rfl) (hcs : ∀ fr, imsPV fr cs = some ks := by (intro fr; rfl)) (hmt : mapT P t = some (kt, e) := by (simp only [fx] <;> with_reducible rfl)) (hts : eqsT P kt = some ts := by (simp only [fx] <;> with_reducible rfl)) (hz : zeroOne P e = some z := by (simp only [fx] <;> with_reducible rfl)) (hn : ks.length = ts.length := by rfl) :
  DOps P n deps (⟨dst, .lookup t m k ok, gd⟩ :: gs) acc st K := by
 refine DOps.opX (hitPV z ok r) [((d, j), .map es)] [] hg hd (fun p hp => by simp at hp; subst hp; exact hrd) (fun s hs ha => ?_) hk
 have h1 := hs.ev (x := m) (by simp [opndsO]) hm
 have h2 := hs.ev (x := k) (by simp [opndsO]) hkk
 have h3 : look s.fr d j = some (.map es) := ha ((d, j), .map es) (by simp)
 refine stepX_ok ?_
 have h4 : lookupV P s t (.map d j) (.agg cs) ok = none := by simp [lookupV, imPV]
 simp only [stepX, stepV, h1, h2, h4, lookK_some hmt (hcs _) hts h3 hz hn hf, Option.map_some]
 rfl
theorem DOps.updK {deps : List (List Nat)} {K : ASt → Prop} {gs : List GO} {acc : List Met} {dst : Option Nat} {gd : Option (Nat × Bool)} {t kt e : TypeId} {m k x : Operand} {cs : List PV} {ts : List TypeId} {d j : Nat} {v : Im} (ks : List Im) (es : List (List Im × Im))
  (hf : findKs P ts ks es 0 = some none) (hrd : fget st.fr d j = some (.map es)) (hk : DOps P n deps gs (acc ++ [⟨[(d, j)], [(d, j)], [], []⟩]) ((st.setFr (fset st.fr d j (.map (es ++ [(ks, v)])))).put dst .any) K)
  (hg : guardA st.env gd = some true := by rfl) (hd : okDst n dst = true := by rfl) (hm : evalPV st m = some (.map d j) := by rfl) (hkk : evalPV st k = some (.agg cs) := by rfl) (hv : evalPV st x = some (.im v) := by rfl) (hcs : ∀ fr, imsPV fr cs = some ks := by (intro fr; rfl)) (hmt : mapT P t = some (kt, e) := by (simp only [fx] <;> with_reducible rfl)) (hts : eqsT P kt = some ts := by (simp only [fx] <;> with_reducible rfl)) (hn : ks.length = ts.length := by rfl) (hn2 : 2 ≤ ks.length := by (simp only [List.length_cons]; omega)) :
  DOps P n deps (⟨dst, .mapUpdate t m k x, gd⟩ :: gs) acc st K := by
 refine DOps.opX .any [((d, j), .map es)] [((d, j), .map (es ++ [(ks, v)]))] hg hd (fun p hp => by simp at hp; subst hp; exact hrd) (fun s hs ha => ?_) hk
 have h1 := hs.ev (x := m) (by simp [opndsO]) hm
 have h2 := hs.ev (x := k) (by simp [opndsO]) hkk
 have h5 := hs.ev (x := x) (by simp [opndsO]) hv
 have h3 : look s.fr d j = some (.map es) := ha ((d, j), .map es) (by simp)
 refine updateK_ok h1 h2 h5 ?_
 simp only [updateK, imPV, hmt, hcs, hts, h3, hn, hf]
 rw [if_pos ⟨trivial, by omega⟩]
 rfl
end Go.Proofs.YtkjfdacjjogpcaaPi

