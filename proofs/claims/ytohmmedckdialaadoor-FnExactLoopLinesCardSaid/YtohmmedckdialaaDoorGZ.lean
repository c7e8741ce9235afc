/- All of them. -/
import Derived.Test.YtohmmedckdialaaDoorGZ1
