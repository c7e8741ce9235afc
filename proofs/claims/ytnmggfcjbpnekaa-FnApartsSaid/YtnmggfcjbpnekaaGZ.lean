/- All of them. -/
import Derived.Test.YtnmggfcjbpnekaaGZ1
